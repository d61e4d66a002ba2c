/- The reference's elimination: one row freed of a column by another one. Conditions: small numbers. -/
import Derived.Test.YtfdhbbhfilkafaaRed2
import Derived.Test.YtfdhbbhfilkafaaPrim
import Derived.Test.YtfdhbbhfilkafaaApp2
import Derived.Deep.RegionHeld3
namespace Go.Proofs.Ytfdhbbhfilkafaa
open Go.RowKit Gr
set_option maxRecDepth 100000
set_option linter.unusedVariables false
set_option linter.unusedSimpArgs false

theorem smallB_of {x : Int} (h : -9000000000000000000 ≤ x ∧ x ≤ 9000000000000000000) : smallB x = true := by simp [smallB, inB]; exact h
theorem gcdZ_of {x y : Int} (hx : -9000000000000000000 ≤ x ∧ x ≤ 9000000000000000000) (hy : -9000000000000000000 ≤ y ∧ y ≤ 9000000000000000000) : gcdZ x y = (Nat.gcd x.natAbs y.natAbs : Int) := by
  unfold gcdZ; rw [smallB_of hx, smallB_of hy]; rfl
theorem gcdTo_rowL {n : Nat} {f : Nat → Int} (h : ∀ k, k < n → -9000000000000000000 ≤ f k ∧ f k ≤ 9000000000000000000) {k : Nat} (hk : k ≤ n) : gcdTo (rowL n f) k = (pgF f k : Int) := by
  induction k with
  | zero => rfl
  | succ k ih =>
    have e := ih (by omega)
    have hb := gcdTo_bd (rowL n f) k
    rw [e] at hb
    simp only [gcdTo, pgF]
    rw [e, rowL_get (by omega)]
    show gcdZ (pgF f k : Int) (f k) = _
    rw [gcdZ_of (by omega) (h k (by omega))]; rfl
theorem firstTo_rowL {n : Nat} {f : Nat → Int} {k : Nat} (hk : k ≤ n) : firstTo (rowL n f) k = fsF f k := by
  induction k with
  | zero => rfl
  | succ k ih =>
    simp only [firstTo, fsF]
    rw [ih (by omega), rowL_get (by omega)]; rfl
theorem prim_rowL {n : Nat} {f : Nat → Int} (h : ∀ k, k < n → -9000000000000000000 ≤ f k ∧ f k ≤ 9000000000000000000) : prim (rowL n f) = rowL n (primF n f) := by
  have hall : (rowL n f).all smallB = true := by
    simp only [rowL, List.all_map, List.all_eq_true]
    intro k hk
    exact smallB_of (h k (List.mem_range.1 hk))
  have hg := gcdTo_rowL h (Nat.le_refl n)
  unfold prim primDen
  rw [if_pos hall, rowL_length, hg, firstTo_rowL (Nat.le_refl n)]
  by_cases h0 : pgF f n = 0
  · rw [if_pos (by omega)]
    exact rowL_congr fun k hk => by unfold primF; rw [if_pos h0]
  · rw [if_neg (by omega)]
    simp only [rowL, List.map_map]
    refine List.map_congr_left fun k hk => ?_
    show quot (denF n f) (f k) = primF n f k
    unfold primF quot
    rw [if_neg h0]
    refine IntWalk.wrap64_in _ ?_
    have h1 : ((f k).tdiv (denF n f)).natAbs ≤ (f k).natAbs := by rw [Int.natAbs_tdiv]; exact Nat.div_le_self _ _
    have h2 := h k (List.mem_range.1 hk)
    generalize (f k).tdiv (denF n f) = z at *
    omega
theorem primF_bd {n : Nat} {f : Nat → Int} {b : Nat} (h : ∀ k, k < n → (f k).natAbs ≤ b) {k : Nat} (hk : k < n) : (primF n f k).natAbs ≤ b := by
  unfold primF
  split
  · exact h k hk
  · rw [Int.natAbs_tdiv]; exact Nat.le_trans (Nat.div_le_self _ _) (h k hk)

set_option maxHeartbeats 4000000 in
theorem l9Clean_any (a : Option Addr) (n cap : Nat) (l : List Int) (W : World) (h : IntsAt W a n l) (hn : n ≤ 1048576) : Calls Try.prog 102 #[.slice a n cap] W (RetInts W (prim l)) := by
  have H := Lib.hid h
  clear h
  go_enter Try.func102, Try.ntmps102
  go_wp2_with fail
  refine (specPrim_any _ _ _ _ _ H.out (by omega)).mono ?_
  rintro e w1 ⟨v, rfl, ho, hb⟩
  have HO := Lib.hid ho
  clear ho
  go_wp2_with fail
  go_ret
  exact ⟨_, rfl, HO.out, hb⟩

set_option maxHeartbeats 8000000 in
theorem l9Without_any (n j : Nat) (hj : j < n) (hn : n ≤ 64) (f h : Nat → Int) (hf : ∀ k, k < n → -2121320343 ≤ f k ∧ f k ≤ 2121320343) (hh : ∀ k, k < n → -2121320343 ≤ h k ∧ h k ≤ 2121320343) (hne : f j ≠ 0)
    (W : World) (b c : Nat) (cb cc : Nat) (hb : b < W.heap.size) (hc : c < W.heap.size) (hfb : ∀ k, k < n → W.cell? ⟨b, k, none⟩ = some (.int .i64 (f k))) (hhc : ∀ k, k < n → W.cell? ⟨c, k, none⟩ = some (.int .i64 (h k))) :
    Calls Try.prog 103 #[.slice (some ⟨b, 0, none⟩) n cb, .slice (some ⟨c, 0, none⟩) n cc, .int .i64 j] W (RetInts W (rowL n (primF n (woF f h j)))) := by
  have hwd := @Wd.cells
  have HB := Lib.hid hfb
  have HC := Lib.hid hhc
  have f0 := hfb j hj
  have c0 := hhc j hj
  clear hfb hhc
  have hfj := hf j hj
  have hhj := hh j hj
  have hgz : gcdZ (f j) (h j) = (Nat.gcd (f j).natAbs (h j).natAbs : Int) := gcdZ_of (by omega) (by omega)
  have hG0 : Nat.gcd (f j).natAbs (h j).natAbs ≠ 0 := fun e => hne (Int.natAbs_eq_zero.1 (Nat.gcd_eq_zero_iff.1 e).1)
  have hX : ((h j).tdiv (Nat.gcd (f j).natAbs (h j).natAbs : Int)).natAbs ≤ (h j).natAbs := by rw [Int.natAbs_tdiv]; exact Nat.div_le_self _ _
  have hY : ((f j).tdiv (Nat.gcd (f j).natAbs (h j).natAbs : Int)).natAbs ≤ (f j).natAbs := by rw [Int.natAbs_tdiv]; exact Nat.div_le_self _ _
  have HW : Hid (∀ k, woF f h j k = f k * (h j).tdiv (Nat.gcd (f j).natAbs (h j).natAbs : Int) - h k * (f j).tdiv (Nat.gcd (f j).natAbs (h j).natAbs : Int)) := Lib.hid fun k => rfl
  have cg := fun w => specGcd_any (f j) (h j) w
  simp only [hgz] at cg
  clear hgz
  generalize hGG : Nat.gcd (f j).natAbs (h j).natAbs = G at *
  clear hGG
  have hG1 : (G : Int) ≠ 0 := by omega
  have q1 : IntKind.i64.wrap ((h j).tdiv (G : Int)) = (h j).tdiv (G : Int) := IntWalk.i64_in _ (by generalize (h j).tdiv (G : Int) = z at *; omega)
  have q2 : IntKind.i64.wrap ((f j).tdiv (G : Int)) = (f j).tdiv (G : Int) := IntWalk.i64_in _ (by generalize (f j).tdiv (G : Int) = z at *; omega)
  have hX1 : -2121320343 ≤ (h j).tdiv (G : Int) ∧ (h j).tdiv (G : Int) ≤ 2121320343 := by generalize (h j).tdiv (G : Int) = z at *; omega
  have hY1 : -2121320343 ≤ (f j).tdiv (G : Int) ∧ (f j).tdiv (G : Int) ≤ 2121320343 := by generalize (f j).tdiv (G : Int) = z at *; omega
  clear hX hY
  have hj0 : (0 : Int) ≤ (j : Int) := by omega
  have hj1 : (j : Int) < (n : Int) := by omega
  have HF := Lib.hid hf
  have HH := Lib.hid hh
  clear hf hh
  go_enter Try.func103, Try.ntmps103
  go_wp2_with fail
  refine wp_region_wd (by kernel_rfl) (by kernel_rfl) ?_
  repeat (go_big_quiet_step ((first | (go_at_call 56; exact Calls.wd_of ((cg _).mono fun _ _ ⟨he, hw⟩ => ⟨he, by rw [← hw]; exact Below.refl _ _⟩)))))
  refine wpQuiet_nil ?_
  intro n1
  have hb1 := n1.h
  have hz1 := hb1.size
  go_wp2_with fail
  generalize (h j).tdiv (G : Int) = x at *
  generalize (f j).tdiv (G : Int) = y at *
  clear q1 q2 cg hG1 hG0 f0 c0
  have hb2 : Below W.heap.size W (n1.w.alloc (.cells #[] 3)) := hb1.alloc hz1 _
  have ho2 : OwnInts (n1.w.alloc (.cells #[] 3)) W.heap.size (.slice (some ⟨n1.w.heap.size, 0, none⟩) 0 0) [] := ownsRow_base (OwnInts.made _ _ (Nat.le_refl _)) hz1
  go_loopw [10, 11] (fun v i wr => ∃ k : Nat, k ≤ n ∧ i = .int .i64 k ∧ OwnInts wr W.heap.size v (rowL k (woF f h j)) ∧ Below W.heap.size W wr) (fun _ i _ => n - (intOf i).toNat)
  case atStart => exact ⟨0, Nat.zero_le _, rfl, ho2, hb2⟩
  case round =>
    clear ho2 hb2
    obtain ⟨k, hk, rfl, ho, hbw⟩ := hrel
    have HO := Lib.hid ho
    clear ho
    have hzw := hbw.size
    by_cases hlt : k < n
    · have e1 := (hbw.cell (p := ⟨b, k, none⟩) hb).trans (HB.out k hlt)
      have e2 := (hbw.cell (p := ⟨c, k, none⟩) hc).trans (HC.out k hlt)
      have p1 := prod_bd (HF.out k hlt) hX1
      have p2 := prod_bd (HH.out k hlt) hY1
      have r1 := IntWalk.i64_in (f k * x) (by omega)
      have r2 := IntWalk.i64_in (h k * y) (by omega)
      have r3 := IntWalk.i64_in (f k * x - h k * y) (by omega)
      have HWK := Lib.hid (HW.out k)
      have hk0 : (0 : Int) ≤ (k : Int) := by omega
      have hk1 : (k : Int) < (n : Int) := by omega
      clear p1 p2
      go_wp2_with fail
      have bu : Below wr.heap.size wr (wr.alloc (.cells #[.int .i64 (f k * x - h k * y)] 3)).drew := ((Below.refl _ wr).alloc (Nat.le_refl _) _).drew
      have d1 : wr.drew.cell? ⟨b, k, none⟩ = _ := e1
      have d2 : wr.drew.cell? ⟨c, k, none⟩ = _ := e2
      have s1 : (wr.alloc (.cells #[.int .i64 (f k * x - h k * y)] 3)).drew.cell? ⟨b, k, none⟩ = _ := ((bcell bu).1 _ _ (by omega)).trans e1
      have s2 : (wr.alloc (.cells #[.int .i64 (f k * x - h k * y)] 3)).drew.cell? ⟨c, k, none⟩ = _ := ((bcell bu).1 _ _ (by omega)).trans e2
      have s3 : (wr.alloc (.cells #[.int .i64 (f k * x - h k * y)] 3)).drew.cell? ⟨wr.heap.size, 0, none⟩ = some (.int .i64 (f k * x - h k * y)) := by show (wr.alloc _).cell? _ = _; simp [World.cell?_alloc_new]
      have HO2 : Hid (OwnInts (wr.alloc (.cells #[.int .i64 (f k * x - h k * y)] 3)).drew W.heap.size _ (rowL k (woF f h j))) := Lib.hid (HO.out.below bu)
      have hzd : W.heap.size ≤ (wr.alloc (.cells #[.int .i64 (f k * x - h k * y)] 3)).drew.heap.size := by have := bu.size; omega
      go_region_held3 (fun w' => w'.cell? ⟨b, k, none⟩ = some (.int .i64 (f k)) ∧ w'.cell? ⟨c, k, none⟩ = some (.int .i64 (h k)))
        (first | (with_reducible exact ⟨d1, d2⟩) | (with_reducible exact ⟨s1, s2⟩) | (with_reducible exact ⟨t1, t2⟩))
        (first
          | (refine stepInts1 (by rfl) (.tmp 40) (.tmp 54) (by rfl) (by rfl) HO2.out (f k * x - h k * y) wr.heap.size (by rfl) s3 (by rw [rowL_length]; omega) hzd ?_
             intro v' w5 h5 k5 ha5
             have H5 := Lib.hid h5
             clear h5
             have t1 := (k5.cell (o := k) (by omega) (fun e => by have := (HO2.out.lt b e.symm).1; omega)).trans s1
             have t2 := (k5.cell (o := k) (by omega) (fun e => by have := (HO2.out.lt c e.symm).1; omega)).trans s2)
          | fail)
      go_wp2_with fail
      go_roundw
      case rel =>
        refine ⟨k + 1, by omega, by go_num, ?_, (hbw.step bu).trans (k5.setOwn HO2.out (Nat.le_refl _) hzd)⟩
        have e3 : rowL (k + 1) (woF f h j) = rowL k (woF f h j) ++ [f k * x - h k * y] := by
          rw [← HWK.out]; simp [rowL, List.range_succ]
        rw [e3]; exact H5.out
      case measure => simp [intOf]; omega
    · obtain rfl : k = n := by omega
      obtain ⟨ao, co, rfl, hio⟩ := HO.out.form
      have HIO := Lib.hid hio
      have HLL : Hid ((rowL k (woF f h j)).length = k) := Lib.hid (rowL_length _ _)
      clear hio
      rw [HLL.out] at HO HIO ⊢
      go_wp2_with fail
      refine (l9Clean_any _ _ _ _ _ HIO.out (by omega)).mono ?_
      rintro e w3 ⟨v, rfl, hov, hbv⟩
      have HOV := Lib.hid hov
      clear hov
      go_wp2_with fail
      go_ret
      refine ⟨_, rfl, ?_, hbw.step hbv⟩
      have h6 := ownsRow_base HOV.out hzw
      rw [prim_rowL (fun q hq => by
        have p1 := prod_bd (HF.out q hq) hX1
        have p2 := prod_bd (HH.out q hq) hY1
        rw [HW.out q]; omega)] at h6
      exact h6
end Go.Proofs.Ytfdhbbhfilkafaa
