/- Ranks: 'rank', and RankOfMatrix of the program and of the reference. No condition but sizes. -/
import Derived.Test.YtfdhbbhfilkafaaRedS2
import Derived.Test.YtfdhbbhfilkafaaMat2
namespace Go.Proofs.Ytfdhbbhfilkafaa
open Go.RowKit Gr
set_option maxRecDepth 100000
set_option linter.unusedVariables false
set_option linter.unusedSimpArgs false

theorem sq_small {x B : Int} (h : x * x ≤ B) (hB : B ≤ 4500000000000000000) : -2121320343 ≤ x ∧ x ≤ 2121320343 := by
  constructor
  · rcases Int.lt_or_le x (-2121320343) with h1 | h1
    · have h2 : 0 ≤ (-2121320344 - x) * (-2121320344 - x) := Gr.mul_self_nonneg' _
      have h3 : 0 ≤ (-2121320344 - x) := by omega
      have h4 := Int.mul_nonneg h3 (show (0 : Int) ≤ 2121320344 by omega)
      rw [Int.sub_mul, Int.mul_sub, Int.mul_sub] at h2
      rw [Int.sub_mul] at h4
      generalize x * x = z at *
      omega
    · exact h1
  · rcases Int.lt_or_le 2121320343 x with h1 | h1
    · have h3 : 0 ≤ (x - 2121320344) := by omega
      have h2 : 0 ≤ (x - 2121320344) * (x - 2121320344) := Gr.mul_self_nonneg' _
      have h4 := Int.mul_nonneg h3 (show (0 : Int) ≤ 2121320344 by omega)
      rw [Int.sub_mul, Int.mul_sub, Int.mul_sub] at h2
      rw [Int.sub_mul] at h4
      generalize x * x = z at *
      omega
    · exact h1
theorem SOk_of {m n : Nat} {F : Nat → Nat → Int} {B : Int} (hB : Bnd m n F B) (hb : B ≤ 4500000000000000000) {c : Nat} (hc : c ≤ n) :
    SOk m n (redF m F c) ∧ ∀ i, i < m → ∀ k, k < n → -2121320343 ≤ (redS m n F c).S i k ∧ (redS m n F c).S i k ≤ 2121320343 := by
  obtain ⟨X, hI⟩ := Inv.all (m := m) (n := n) F hc
  have h1 : ∀ i, i < m → ∀ k, k < n → -2121320343 ≤ (redF m F c).F i k ∧ (redF m F c).F i k ≤ 2121320343 := fun i hi k hk => sq_small (hB.num hI hi hk) hb
  refine ⟨⟨hI.nz, sq_small (hB.last hI) hb, h1⟩, fun i hi k hk => ?_⟩
  rw [(red_sim (m := m) F hc).2 i hi k hk]
  have h2 := primF_bd (n := n) (f := (redF m F c).F i) (b := 2121320343) (fun k hk => by have := h1 i hi k hk; omega) hk
  omega

/-- the empty matrix -/
theorem redF_zero (F : Nat → Nat → Int) (n : Nat) : redF 0 F n = ⟨F, [], 1⟩ := by
  induction n with
  | zero => rfl
  | succ n ih => show stepF 0 n (redF 0 F n) = _; rw [ih]; rfl
theorem redS_zero (F : Nat → Nat → Int) (n c : Nat) : redS 0 n F c = ⟨fun i => primF n (F i), []⟩ := by
  induction c with
  | zero => rfl
  | succ c ih =>
    show stepS 0 n c (redS 0 n F c) = _
    rw [ih]; unfold stepS
    rw [if_neg (by have := findF_ge (fun i => primF n (F i)) 0 c ([] : List Nat).length; omega)]
set_option maxHeartbeats 4000000 in
theorem reduced_nil (n : Nat) (hn : n ≤ 64) (F : Nat → Nat → Int) (W : World) (a : Option Addr) (cap : Nat) :
    Calls Try.prog 98 #[.slice a 0 cap, .int .i64 n] W (RetRed W 0 n (redF 0 F n)) := by
  have hz := Lib.hid (redF_zero F n)
  go_enter Try.func98, Try.ntmps98
  go_wp2_with fail
  refine (copyLists_any _ _ _ [] _ ⟨rfl, fun k hk => absurd hk (Nat.not_lt_zero _)⟩ (Nat.zero_le _) (fun r hr => by simp at hr)).mono ?_
  rintro e w1 ⟨v, rfl, ho, hb⟩
  obtain ⟨av, cv, rfl, _⟩ := ho.form
  have HO := Lib.hid ho
  clear ho
  have hl : ([] : List (List Int)).length = 0 := rfl
  rw [hl]
  have hb1 : Below W.heap.size W (w1.alloc (.cells #[] 3)) := hb.alloc hb.size _
  have ho1 : OwnInts (w1.alloc (.cells #[] 3)) W.heap.size (.slice (some ⟨w1.heap.size, 0, none⟩) 0 0) [] := ownsRow_base (OwnInts.made _ _ (Nat.le_refl _)) hb.size
  have HO1 := Lib.hid ho1
  have HX := Lib.hid (HO.out.below ((Below.refl _ _).alloc (Nat.le_refl _) (.cells #[] 3)))
  clear ho1
  by_cases h0 : (0 : Int) < (n : Int)
  · go_wp2_with fail
    go_loopw [8, 9, 10] (fun pv dv cv2 wr => pv = .slice (some ⟨w1.heap.size, 0, none⟩) 0 0 ∧ dv = .int .i64 1 ∧ cv2 = .int .i64 0 ∧ wr = w1.alloc (.cells #[] 3)) (fun _ _ _ _ => 0)
    case atStart => exact ⟨rfl, rfl, rfl, rfl⟩
    case round =>
      obtain ⟨rfl, rfl, rfl, rfl⟩ := hrel
      go_wp2_with fail
      go_ret3
      exact ⟨_, _, by rw [hz.out]; rfl, by rw [hz.out]; exact HX.out, by rw [hz.out]; exact HO1.out, hb1⟩
  · go_wp2_with fail
    go_loopw [8, 9, 10] (fun pv dv cv2 wr => pv = .slice (some ⟨w1.heap.size, 0, none⟩) 0 0 ∧ dv = .int .i64 1 ∧ cv2 = .int .i64 0 ∧ wr = w1.alloc (.cells #[] 3)) (fun _ _ _ _ => 0)
    case atStart => exact ⟨rfl, rfl, rfl, rfl⟩
    case round =>
      obtain ⟨rfl, rfl, rfl, rfl⟩ := hrel
      go_wp2_with fail
      go_ret3
      exact ⟨_, _, by rw [hz.out]; rfl, by rw [hz.out]; exact HX.out, by rw [hz.out]; exact HO1.out, hb1⟩
set_option maxHeartbeats 4000000 in
theorem l9Reduced_nil (n : Nat) (F : Nat → Nat → Int) (W : World) (a : Option Addr) (cap : Nat) :
    Calls Try.prog 67 #[.slice a 0 cap] W (RetRedS W 0 n (redS 0 n F n)) := by
  have hz := Lib.hid (redS_zero F n n)
  have hb0 : Below W.heap.size W (W.alloc (.cells #[] 35)) := (Below.refl _ _).alloc (Nat.le_refl _) _
  have h0 : OwnIntss (W.alloc (.cells #[] 35)) W.heap.size (.slice (some ⟨W.heap.size, 0, none⟩) 0 0) [] := ⟨[], World.ownsRow_made W #[] 0 (Nat.le_refl _) (Nat.zero_le _) rfl, IRows.nil _ _⟩
  have hb1 := hb0.alloc hb0.size (.cells #[] 3)
  have HX := Lib.hid (h0.below ((Below.refl _ _).alloc (Nat.le_refl _) (.cells #[] 3)))
  have ho1 : OwnInts ((W.alloc (.cells #[] 35)).alloc (.cells #[] 3)) W.heap.size (.slice (some ⟨W.heap.size + 1, 0, none⟩) 0 0) [] := by
    have h9 := OwnInts.made (W.alloc (.cells #[] 35)) W.heap.size (by simp)
    simpa using h9
  have HO1 := Lib.hid ho1
  clear ho1 h0
  go_enter Try.func67, Try.ntmps67
  go_wp2_with fail
  go_loopw [4, 5] (fun ov iv wr => ov = .slice (some ⟨W.heap.size, 0, none⟩) 0 0 ∧ iv = .int .i64 0 ∧ wr = W.alloc (.cells #[] 35)) (fun _ _ _ => 0)
  case atStart => exact ⟨rfl, rfl, rfl⟩
  case round =>
    obtain ⟨rfl, rfl, rfl⟩ := hrel
    go_wp2_with fail
    go_loopw [6, 7] (fun pv iv wr => pv = .slice (some ⟨W.heap.size + 1, 0, none⟩) 0 0 ∧ iv = .int .i64 0 ∧ wr = (W.alloc (.cells #[] 35)).alloc (.cells #[] 3)) (fun _ _ _ => 0)
    case atStart => exact ⟨rfl, rfl, rfl⟩
    case round =>
      obtain ⟨rfl, rfl, rfl⟩ := hrel
      go_wp2_with fail
      go_ret2
      exact ⟨_, _, rfl, by rw [hz.out]; exact HX.out, by rw [hz.out]; exact HO1.out, hb1⟩

/-- both, for a matrix whose minors are small -/
structure Fit (M : List (List Int)) (n : Nat) (B : Int) : Prop where
  rect : ∀ r ∈ M, r.length = n
  m64 : M.length ≤ 64
  n0 : 0 < n
  n64 : n ≤ 64
  bnd : Bnd M.length n (entF M) B
  small : B ≤ 4500000000000000000
theorem Fit.num {M : List (List Int)} {n : Nat} {B : Int} (h : Fit M n B) : ∀ i, i < M.length → ∀ k, k < n → -9000000000000000000 ≤ entF M i k ∧ entF M i k ≤ 9000000000000000000 := by
  intro i hi k hk
  have := (SOk_of h.bnd h.small (Nat.zero_le n)).1.2.2 i hi k hk
  have e : (redF M.length (entF M) 0).F = entF M := rfl
  rw [e] at this
  omega
theorem reduced_fit (M : List (List Int)) (n : Nat) (B : Int) (hf : Fit M n B) (W : World) (a : Option Addr) (cap : Nat) (h : IntssAt W a M.length M) :
    Calls Try.prog 98 #[.slice a M.length cap, .int .i64 n] W (RetRed W M.length n (redF M.length (entF M) n)) := by
  by_cases hm0 : 0 < M.length
  · exact reduced_any M M.length n rfl hf.rect hm0 hf.m64 hf.n0 hf.n64 _ rfl (fun c hc => (SOk_of hf.bnd hf.small hc).1) W a cap h
  · have e : M.length = 0 := by omega
    rw [e]; exact reduced_nil n hf.n64 _ W a cap
theorem l9Reduced_fit (M : List (List Int)) (n : Nat) (B : Int) (hf : Fit M n B) (W : World) (a : Option Addr) (cap : Nat) (h : IntssAt W a M.length M) :
    Calls Try.prog 67 #[.slice a M.length cap] W (RetRedS W M.length n (redS M.length n (entF M) n)) := by
  by_cases hm0 : 0 < M.length
  · exact l9Reduced_any M M.length n rfl hf.rect hm0 hf.m64 hf.n0 hf.n64 _ rfl hf.num (fun c hc => (SOk_of hf.bnd hf.small hc).2) W a cap h
  · have e : M.length = 0 := by omega
    rw [e]; exact l9Reduced_nil n _ W a cap
end Go.Proofs.Ytfdhbbhfilkafaa
