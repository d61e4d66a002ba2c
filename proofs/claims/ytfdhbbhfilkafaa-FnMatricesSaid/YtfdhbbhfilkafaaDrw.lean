/- Drawing inputs out of bytes (l1New, l1Byte, l1Below, l1Once, l1PickInt of the reference): what is drawn lies in its range. No condition but sizes. -/
import Derived.Test.YtfdhbbhfilkafaaRdBytes
import Derived.Test.YtfdhbbhfilkafaaApp2
import Derived.Test.YtfdhbbhfilkafaaRng
import Derived.Laws.BitsLemmas
import Derived.Deep.QuietTactic
import Derived.BigQuiet
namespace Go.Proofs.Ytfdhbbhfilkafaa
open Go.RowKit
set_option maxRecDepth 100000
set_option linter.unusedVariables false
set_option linter.unusedSimpArgs false
theorem and_low (y : Int) (k : Nat) (hk : k < 63) : bits .and .i64 y (2 ^ k - 1) = y % 2 ^ k := by
  have h1 : (BitVec.ofInt 64 (2 ^ k - 1 : Int)).toNat = 2 ^ k - 1 := by
    have e : (2 ^ k - 1 : Int) = ((2 ^ k - 1 : Nat) : Int) := by rw [Int.natCast_sub Nat.one_le_two_pow, Int.natCast_pow]; rfl
    have hlt : 2 ^ k < 2 ^ 64 := Nat.pow_lt_pow_right (by decide) (by omega)
    rw [e, BitVec.ofInt_natCast, BitVec.toNat_ofNat, Nat.mod_eq_of_lt (by omega)]
  have key : (BitVec.ofInt 64 y &&& BitVec.ofInt 64 (2 ^ k - 1 : Int)).toNat = (y % ((2 ^ 64 : Nat) : Int)).toNat % 2 ^ k := by
    rw [BitVec.toNat_and, BitVec.toNat_ofInt, h1, Nat.and_two_pow_sub_one_eq_mod]
  show IntKind.i64.wrap ((BitVec.ofInt 64 y &&& BitVec.ofInt 64 (2 ^ k - 1 : Int)).toNat : Nat) = y % 2 ^ k
  have h2 : ((y % ((2 ^ 64 : Nat) : Int)).toNat % 2 ^ k : Nat) < 2 ^ k := Nat.mod_lt _ (Nat.two_pow_pos k)
  have hk2 : (2 : Nat) ^ k ≤ 2 ^ 62 := Nat.pow_le_pow_right (by decide) (by omega)
  have h3 : 0 ≤ y % ((2 ^ 64 : Nat) : Int) := Int.emod_nonneg _ (by decide)
  have h5 : (((y % ((2 ^ 64 : Nat) : Int)).toNat % 2 ^ k : Nat) : Int) = y % 2 ^ k := by
    rw [Int.natCast_emod, Int.toNat_of_nonneg h3, Int.natCast_pow]
    have h4 : ((2 : Int) ^ k) ∣ ((2 ^ 64 : Nat) : Int) := by
      refine ⟨((2 ^ (64 - k) : Nat) : Int), ?_⟩
      rw [Int.natCast_pow, Int.natCast_pow]
      show (2 : Int) ^ 64 = 2 ^ k * 2 ^ (64 - k)
      rw [← Int.pow_add]
      congr 1
      omega
    exact Int.emod_emod_of_dvd y h4
  rw [key, ← h5]
  generalize (y % ((2 ^ 64 : Nat) : Int)).toNat % 2 ^ k = m at *
  rw [IntKind.wrap_i64]
  have : m < 2 ^ 62 := by omega
  omega
theorem and255 (y : Int) : bits .and .i64 y 255 = y % 256 := and_low y 8 (by decide)
theorem andBig (y : Int) : bits .and .i64 y 1073741823 = y % 1073741824 := and_low y 30 (by decide)
/-- the state of a draw lies in block g, behind what lay there as the law began -/
structure Drw (W0 w : World) (g : Nat) (ca : Option Addr) (n cap : Nat) (l : List Int) : Prop where
  bel : Below W0.heap.size W0 w
  low : W0.heap.size ≤ g
  hi : g < w.heap.size
  c0 : w.cell? ⟨g, 0, none⟩ = some (.slice ca n cap)
  c1 : ∃ i : Nat, i ≤ n ∧ w.cell? ⟨g, 1, none⟩ = some (.int .i64 (i : Int))
  c2 : ∃ h : Int, w.cell? ⟨g, 2, none⟩ = some (.int .i64 h)
  f1 : w.frozen? ⟨g, 1, none⟩ = false
  f2 : w.frozen? ⟨g, 2, none⟩ = false
theorem Drw.kept {S : Nat → Prop} {W0 w w' : World} {g n cap : Nat} {ca : Option Addr} {l : List Int} (h : Drw W0 w g ca n cap l) (hk : Kept S w w') (hg : ¬ S g) (hS : ∀ b, b < W0.heap.size → ¬ S b) : Drw W0 w' g ca n cap l where
  bel := h.bel.trans (hk.below h.bel.size hS)
  low := h.low
  hi := Nat.lt_of_lt_of_le h.hi hk.size
  c0 := (hk.cell h.hi hg).trans h.c0
  c1 := by obtain ⟨i, h1, h2⟩ := h.c1; exact ⟨i, h1, (hk.cell h.hi hg).trans h2⟩
  c2 := by obtain ⟨i, h2⟩ := h.c2; exact ⟨i, (hk.cell h.hi hg).trans h2⟩
  f1 := (hk.frozen h.hi hg).trans h.f1
  f2 := (hk.frozen h.hi hg).trans h.f2
theorem Drw.below {W0 w w' : World} {g n cap : Nat} {ca : Option Addr} {l : List Int} (h : Drw W0 w g ca n cap l) (hb : Below w.heap.size w w') : Drw W0 w' g ca n cap l := h.kept (Kept.of_below (S := fun _ => False) hb) id fun _ _ => id
theorem Drw.set1 {W0 w : World} {g n cap : Nat} {ca : Option Addr} {l : List Int} (h : Drw W0 w g ca n cap l) {i : Nat} (hi : i ≤ n) : Drw W0 (w.setCell ⟨g, 1, none⟩ (.int .i64 (i : Int))) g ca n cap l where
  bel := h.bel.setCell (p := ⟨g, 1, none⟩) h.low _
  low := h.low
  hi := by simpa using h.hi
  c0 := (World.cell?_setCell_other _ _ _ _ (by simp)).trans h.c0
  c1 := ⟨i, hi, by obtain ⟨j, _, h2⟩ := h.c1; exact World.cell?_setCell_same _ _ _ h2⟩
  c2 := by obtain ⟨j, h2⟩ := h.c2; exact ⟨j, (World.cell?_setCell_other _ _ _ _ (by simp)).trans h2⟩
  f1 := by rw [World.frozen?_setCell]; exact h.f1
  f2 := by rw [World.frozen?_setCell]; exact h.f2
theorem Drw.set2 {W0 w : World} {g n cap : Nat} {ca : Option Addr} {l : List Int} (h : Drw W0 w g ca n cap l) (x : Int) : Drw W0 (w.setCell ⟨g, 2, none⟩ (.int .i64 x)) g ca n cap l where
  bel := h.bel.setCell (p := ⟨g, 2, none⟩) h.low _
  low := h.low
  hi := by simpa using h.hi
  c0 := (World.cell?_setCell_other _ _ _ _ (by simp)).trans h.c0
  c1 := by obtain ⟨j, h1, h2⟩ := h.c1; exact ⟨j, h1, (World.cell?_setCell_other _ _ _ _ (by simp)).trans h2⟩
  c2 := ⟨x, by obtain ⟨j, h2⟩ := h.c2; exact World.cell?_setCell_same _ _ _ h2⟩
  f1 := by rw [World.frozen?_setCell]; exact h.f1
  f2 := by rw [World.frozen?_setCell]; exact h.f2
def RetDi (W0 w : World) (g : Nat) (ca : Option Addr) (n cap : Nat) (l : List Int) (lo hi : Int) (e : Ending) (w' : World) : Prop := ∃ x : Int, (lo ≤ x ∧ x ≤ hi) ∧ e = .returned (.int .i64 x) ∧ Drw W0 w' g ca n cap l ∧ Kept (fun b => b = g) w w'
set_option maxHeartbeats 4000000 in
theorem l1Byte_at (W0 w : World) (g : Nat) (ca : Option Addr) (n cap : Nat) (l : List Int) (hB : BytesAt W0 ca n l) (hn : n ≤ 1099511627776) (h : Drw W0 w g ca n cap l) : Calls Try.prog 109 #[.pointer (some ⟨g, 0, none⟩)] w (RetDi W0 w g ca n cap l 0 255) := by
  have hwd := @Wd.cells
  have HB := Lib.hid hB
  obtain ⟨i, hi, ci⟩ := h.c1
  obtain ⟨H, cH⟩ := h.c2
  have zg := h.hi
  have f1 := h.f1
  have f2 := h.f2
  have c0 := h.c0
  have D := Lib.hid h
  clear h hB
  go_enter Try.func109, Try.ntmps109
  go_wp2_with fail
  have D1 := Lib.hid (D.out.set2 (wrap64 (wrap64 (H * 6364136223846793005) + 1442695040888963407)))
  have e2 : (w.setCell ⟨g, 2, none⟩ (.int .i64 (wrap64 (wrap64 (H * 6364136223846793005) + 1442695040888963407)))).cell? ⟨g, 2, none⟩ = some (.int .i64 (wrap64 (wrap64 (H * 6364136223846793005) + 1442695040888963407))) := World.cell?_setCell_same _ _ _ cH
  have e1 : (w.setCell ⟨g, 2, none⟩ (.int .i64 (wrap64 (wrap64 (H * 6364136223846793005) + 1442695040888963407)))).cell? ⟨g, 1, none⟩ = some (.int .i64 (i : Int)) := (World.cell?_setCell_other _ _ _ _ (by simp)).trans ci
  have k1 : Kept (fun b => b = g) w (w.setCell ⟨g, 2, none⟩ (.int .i64 (wrap64 (wrap64 (H * 6364136223846793005) + 1442695040888963407)))) := ⟨rfl, rfl, rfl, by simp, fun k hk hs => by simp [World.setCell, Array.getElem?_modify]; intro e; exact absurd e.symm hs⟩
  clear D ci cH zg f1 f2 c0
  generalize wrap64 (wrap64 (H * 6364136223846793005) + 1442695040888963407) = Y at *
  generalize w.setCell ⟨g, 2, none⟩ (.int .i64 Y) = w1 at *
  have zg := D1.out.hi
  have hx := and255 (bits BinOp.xor IntKind.i64 (Y / 8589934592) (Y / 35184372088832))
  refine wp_region_wd (by kernel_rfl) (by kernel_rfl) ?_
  repeat (go_big_quiet_step (fail))
  refine wpQuiet_nil ?_
  intro n1
  clear hx
  have hx0 : 0 ≤ bits BinOp.xor IntKind.i64 (Y / 8589934592) (Y / 35184372088832) % 256 ∧ bits BinOp.xor IntKind.i64 (Y / 8589934592) (Y / 35184372088832) % 256 ≤ 255 := by omega
  generalize bits BinOp.xor IntKind.i64 (Y / 8589934592) (Y / 35184372088832) % 256 = x at *
  have D2 := Lib.hid (D1.out.below n1.h)
  have k2 := k1.trans (Kept.of_below n1.h)
  have d1 := (n1.h.cell (p := ⟨g, 1, none⟩) zg).trans e1
  clear D1 k1 e1 e2 zg
  generalize n1.w = w2 at *
  clear n1
  have d0 := D2.out.c0
  have zg := D2.out.hi
  by_cases hin : i < n
  · have hii : (i : Int) < (n : Int) := by omega
    have hi0 : (0 : Int) ≤ (i : Int) := by omega
    obtain ⟨b, off, y, rfl, hb, hy, hcy, hy0, hy1⟩ := (HB.out.below D2.out.bel).2 i hin
    go_wp2_with fail
    refine wp_region_wd (by kernel_rfl) (by kernel_rfl) ?_
    repeat (go_big_quiet_step (fail))
    refine wpQuiet_nil ?_
    intro n1
    have D3 := Lib.hid (D2.out.below n1.h)
    have k3 := k2.trans (Kept.of_below n1.h)
    have g1 := (n1.h.cell (p := ⟨g, 1, none⟩) zg).trans d1
    have gy := (n1.h.cell (p := ⟨b, off + i, none⟩) hb).trans hcy
    have hb3 := Nat.lt_of_lt_of_le hb n1.h.size
    clear D2 k2 d0 d1 zg hb hcy
    generalize n1.w = w3 at *
    clear n1 w2
    have d0 := D3.out.c0
    have zg := D3.out.hi
    have ha := and255 (x + y)
    have hadd := IntWalk.i64_in (x + y) (by omega)
    go_wp2_with fail
    refine wp_region_wd (by kernel_rfl) (by kernel_rfl) ?_
    repeat (go_big_quiet_step (fail))
    refine wpQuiet_nil ?_
    intro n1
    clear ha hadd
    have hz0 : 0 ≤ (x + y) % 256 ∧ (x + y) % 256 ≤ 255 := by omega
    generalize (x + y) % 256 = z at *
    have D4 := Lib.hid (D3.out.below n1.h)
    have k4 := k3.trans (Kept.of_below n1.h)
    have e1 := (n1.h.cell (p := ⟨g, 1, none⟩) zg).trans g1
    clear D3 k3 d0 g1 gy zg hb3
    generalize n1.w = w4 at *
    clear n1 w3
    have zg := D4.out.hi
    have f1 := D4.out.f1
    have D5 := Lib.hid (D4.out.set1 (i := i + 1) (by omega))
    have k5 : Kept (fun b => b = g) w (w4.setCell ⟨g, 1, none⟩ (.int .i64 ((i : Int) + 1))) := k4.trans ⟨rfl, rfl, rfl, by simp, fun k hk hs => by simp [World.setCell, Array.getElem?_modify]; intro e; exact absurd e.symm hs⟩
    rw [show ((i + 1 : Nat) : Int) = (i : Int) + 1 by omega] at D5
    go_wp2_with fail
    go_ret
    exact ⟨z, hz0, rfl, D5.out, k5⟩
  · have hii : ¬ (i : Int) < (n : Int) := by omega
    go_wp2_with fail
    refine wp_region_wd (by kernel_rfl) (by kernel_rfl) ?_
    repeat (go_big_quiet_step (fail))
    refine wpQuiet_nil ?_
    intro n1
    have D3 := Lib.hid (D2.out.below n1.h)
    have k3 := k2.trans (Kept.of_below n1.h)
    clear D2 k2 d0 d1 zg
    generalize n1.w = w3 at *
    clear n1 w2
    go_wp2_with fail
    go_ret
    exact ⟨x, hx0, rfl, D3.out, k3⟩
/-- what a number lies in that is drawn below n -/
theorem emod_rng {x n : Int} (h : 0 ≤ x) (hn : 0 < n) : 0 ≤ x % n ∧ x % n ≤ n - 1 := by
  have h1 := Int.emod_nonneg x (show n ≠ 0 by omega)
  have h2 := Int.emod_lt_of_pos x hn
  omega
set_option maxHeartbeats 4000000 in
theorem l1Below_at (W0 w : World) (g : Nat) (ca : Option Addr) (n cap : Nat) (l : List Int) (hB : BytesAt W0 ca n l) (hn : n ≤ 1099511627776) (h : Drw W0 w g ca n cap l) (m : Int) (hm : 1 ≤ m ∧ m ≤ 256) : Calls Try.prog 92 #[.pointer (some ⟨g, 0, none⟩), .int .i64 m] w (RetDi W0 w g ca n cap l 0 (m - 1)) := by
  have HC := Lib.hid (l1Byte_at W0 w g ca n cap l hB hn h)
  have hm1 : ¬ m ≤ 0 := by omega
  have hm2 : m ≤ 256 := hm.2
  clear h hB
  go_enter Try.func92, Try.ntmps92
  go_wp2_with fail
  refine HC.out.mono ?_
  rintro e w1 ⟨x, hx, rfl, d1, k1⟩
  have D1 := Lib.hid d1
  have K1 := Lib.hid k1
  have HR := Lib.hid (emod_rng hx.1 (show 0 < m by omega))
  have hne : (m == 0) = false := by rw [beq_eq_false_iff_ne]; omega
  clear d1 k1 HC
  go_wp2_with fail
  go_ret
  exact ⟨_, HR.out, rfl, D1.out, K1.out⟩
end Go.Proofs.Ytfdhbbhfilkafaa
