/- FormatSteps of the reference and of the program. No condition but sizes and 64-bit numbers. -/
import Derived.Test.YtnjecekaenddiaaFms
namespace Go.Proofs.Ytnjecekaenddiaa
open Go.RowKit
set_option maxRecDepth 100000
set_option linter.unusedVariables false
set_option linter.unusedSimpArgs false


set_option maxHeartbeats 8000000 in
theorem implFs_at (W : World) (a : Option Addr) (cap : Nat) (l : List StepT) (h : StepsAt W a l.length l) (hn : l.length ≤ 1048576) (hok : OkSteps l) :
    Calls Try.prog 10 #[.slice a l.length cap] W fun e w' => e = .returned (.string (bs (fmtSt l))) ∧ Below W.heap.size W w' := by
  have HC := Lib.hid h
  have HOK := Lib.hid hok.2
  clear h hok
  have hwd := @Wd.cells
  have HCN : Hid (∀ w9 x, -9223372036854775808 ≤ x → x ≤ 9223372036854775807 → Calls Try.prog 28 #[.int .i64 x] w9 fun e w' => e = .returned (.string (bs (fmtI x))) ∧ Below w9.heap.size w9 w') := Lib.hid fun w9 x a b => impl_FormatInt x w9 a b
  have HTL : Hid (∀ x ∈ l, (stepTx x).length ≤ 90) := Lib.hid fun x hx => by
    obtain ⟨q1, ⟨q2, p2⟩, ⟨q3, p3⟩, ⟨q4, p4⟩, ⟨q5, p5⟩⟩ := HOK.out x hx
    have hl2 := fmtI_len q2 p2
    have hl3 := fmtI_len q3 p3
    have hl4 := fmtI_len q4 p4
    have hl5 := fmtI_len q5 p5
    unfold stepTx
    split
    · simp only [List.length_append, List.length_cons, List.length_nil]; omega
    · split
      · simp only [List.length_append, List.length_cons, List.length_nil]; omega
      · split
        · simp only [List.length_append, List.length_cons, List.length_nil]; omega
        · simp
  by_cases h0 : l.length = 0
  · have HE : Hid (fmtSt l = [110, 111, 110, 101]) := Lib.hid (if_pos h0)
    have h00 : ((l.length : Int) == 0) = true := by rw [h0]; rfl
    clear h0
    go_enter Try.func10, Try.ntmps10
    go_wp2_with fail
    go_ret
    exact ⟨by rw [HE.out]; rfl, Below.refl _ _⟩
  have HE : Hid (fmtSt l = jnTo [32] (l.map stepTx) l.length) := Lib.hid (if_neg h0)
  have h00 : ((l.length : Int) == 0) = false := by rw [beq_eq_false_iff_ne]; omega
  have hl0 : 0 < l.length := by omega
  clear h0
  have ho0 := OwnStrs.made W W.heap.size (Nat.le_refl _)
  have hbo : Below W.heap.size W (W.alloc (.cells #[] 9)) := (Below.refl _ _).alloc (Nat.le_refl _) _
  have HO0 := Lib.hid ho0
  clear ho0
  go_enter Try.func10, Try.ntmps10
  go_wp2_with fail
  generalize W.alloc (.cells #[] 9) = w0 at *
  go_loopw [3, 16] (fun o i w9 => ∃ k : Nat, k ≤ l.length ∧ i = .int .i64 k ∧ OwnStrs w9 W.heap.size o ((l.take k).map stepTx) ∧ Below W.heap.size W w9) (fun _ i _ => l.length - (intOf i).toNat)
  case atStart => exact ⟨0, Nat.zero_le _, rfl, HO0.out, hbo⟩
  case round =>
    clear HO0 hbo
    obtain ⟨k, hk, rfl, ho, hb⟩ := hrel
    have HO := Lib.hid ho
    clear ho
    by_cases hlt : k < l.length
    · obtain ⟨b, off, ⟨x1, x2, x3, x4, x5⟩, rfl, hbl, hx, hc0, hc1, hc2, hc3, hc4⟩ := (HC.out.below hb).2 k hlt
      have HX := Lib.hid hx
      obtain ⟨q1, ⟨q2, p2⟩, ⟨q3, p3⟩, ⟨q4, p4⟩, ⟨q5, p5⟩⟩ := HOK.out _ (List.mem_of_getElem? hx)
      dsimp only at hc0 hc1 hc2 hc3 hc4 q1 q2 q3 q4 q5 p2 p3 p4 p5
      have hl2 := fmtI_len q2 p2
      have hl3 := fmtI_len q3 p3
      have hl4 := fmtI_len q4 p4
      have hl5 := fmtI_len q5 p5
      have HTX : Hid ((l.map stepTx)[k]? = some (stepTx (x1, x2, x3, x4, x5))) := Lib.hid (by rw [List.getElem?_map, hx]; rfl)
      clear hx q1
      have hki0 : (0 : Int) ≤ (k : Int) := by omega
      have hlti : (k : Int) < (l.length : Int) := by omega
      have hln : k < l.length := hlt
      have bpl : Below wr.heap.size wr (wr.alloc (.cells #[.int .i64 x1, .int .i64 x2, .int .i64 x3, .int .i64 x4, .int .i64 x5] 56)) := (Below.refl _ _).alloc (Nat.le_refl _) _
      have e0 : (wr.alloc (.cells #[.int .i64 x1, .int .i64 x2, .int .i64 x3, .int .i64 x4, .int .i64 x5] 56)).cell? ⟨wr.heap.size, 0, none⟩ = some (.int .i64 x1) := by simp [World.cell?_alloc_new]
      have e1 : (wr.alloc (.cells #[.int .i64 x1, .int .i64 x2, .int .i64 x3, .int .i64 x4, .int .i64 x5] 56)).cell? ⟨wr.heap.size, 1, none⟩ = some (.int .i64 x2) := by simp [World.cell?_alloc_new]
      have e2 : (wr.alloc (.cells #[.int .i64 x1, .int .i64 x2, .int .i64 x3, .int .i64 x4, .int .i64 x5] 56)).cell? ⟨wr.heap.size, 2, none⟩ = some (.int .i64 x3) := by simp [World.cell?_alloc_new]
      have e3 : (wr.alloc (.cells #[.int .i64 x1, .int .i64 x2, .int .i64 x3, .int .i64 x4, .int .i64 x5] 56)).cell? ⟨wr.heap.size, 3, none⟩ = some (.int .i64 x4) := by simp [World.cell?_alloc_new]
      have e4 : (wr.alloc (.cells #[.int .i64 x1, .int .i64 x2, .int .i64 x3, .int .i64 x4, .int .i64 x5] 56)).cell? ⟨wr.heap.size, 4, none⟩ = some (.int .i64 x5) := by simp [World.cell?_alloc_new]
      have pz : wr.heap.size < (wr.alloc (.cells #[.int .i64 x1, .int .i64 x2, .int .i64 x3, .int .i64 x4, .int .i64 x5] 56)).heap.size := by simp
      go_wp2_with fail
      clear hc0 hc1 hc2 hc3 hc4
      have hb4 := hb.step bpl
      have HO4 := Lib.hid (HO.out.below bpl)
      have HO9 := HO4
      generalize (wr.alloc (.cells #[.int .i64 x1, .int .i64 x2, .int .i64 x3, .int .i64 x4, .int .i64 x5] 56)) = w4 at *
      clear bpl
      refine wp_region_wd (by kernel_rfl) (by kernel_rfl) ?_
      repeat (go_big_quiet_step ((first | (go_at_call 28; exact Calls.wd_of (HCN.out _ _ (by assumption) (by assumption))))))
      refine wpQuiet_nil ?_
      intro n1
      have b9 := n1.h
      have hb5 := hb4.step b9
      have HO5 := Lib.hid (HO4.out.below b9)
      have hbz := hb5.size
      have f0 := ((bcell b9).1 _ _ pz).trans e0
      generalize hw5 : n1.w = w5 at *
      clear e0 e1 e2 e3 e4 hwd
      by_cases hkd : x1 = 0
      · have kd0 : (x1 == (0 : Int)) = true := by simp <;> omega
        obtain ⟨t1, ht1, T1⟩ := addY (a := bs (fmtI x3)) (b := { data := #[45] }) (show bs (fmtI x3) = bs (fmtI x3) from rfl) (show _ = bs [45] from rfl) (by (try simp only [List.length_append, List.length_cons, List.length_nil]); omega)
        obtain ⟨t2, ht2, T2⟩ := addY (a := t1) (b := bs (fmtI x4)) T1.out rfl (by (try simp only [List.length_append, List.length_cons, List.length_nil]); omega)
        have HST : Hid (t2 = bs (stepTx (x1, x2, x3, x4, x5))) := Lib.hid (by rw [T2.out]; unfold stepTx; dsimp only; rw [if_pos hkd])
        go_wp2_with (at_builtin; refine appS rfl (.tmp 39) (.tmp 44) rfl rfl HO5.out (stepTx (x1, x2, x3, x4, x5)) _ (by rw [HST.out]; rfl) rfl (by simp; omega) hbz ?_; intro v7 w7 h7 k7)
        go_roundw
        case rel => exact ⟨k + 1, by omega, by go_num, by rw [take_succ_of HX.out, List.map_append]; exact h7, hb5.trans (k7.setOwn HO5.out (Nat.le_refl _) hbz)⟩
        case measure => simp [intOf]; omega
      by_cases hkd : x1 = 1
      · have kd0 : (x1 == (0 : Int)) = false := by simp <;> omega
        have kd1 : (x1 == (1 : Int)) = true := by simp <;> omega
        obtain ⟨t1, ht1, T1⟩ := addY (a := bs (fmtI x2)) (b := { data := #[58] }) (show bs (fmtI x2) = bs (fmtI x2) from rfl) (show _ = bs [58] from rfl) (by (try simp only [List.length_append, List.length_cons, List.length_nil]); omega)
        obtain ⟨t2, ht2, T2⟩ := addY (a := t1) (b := bs (fmtI x3)) T1.out rfl (by (try simp only [List.length_append, List.length_cons, List.length_nil]); omega)
        obtain ⟨t3, ht3, T3⟩ := addY (a := t2) (b := { data := #[44] }) T2.out (show _ = bs [44] from rfl) (by (try simp only [List.length_append, List.length_cons, List.length_nil]); omega)
        obtain ⟨t4, ht4, T4⟩ := addY (a := t3) (b := bs (fmtI x4)) T3.out rfl (by (try simp only [List.length_append, List.length_cons, List.length_nil]); omega)
        have HST : Hid (t4 = bs (stepTx (x1, x2, x3, x4, x5))) := Lib.hid (by rw [T4.out]; unfold stepTx; dsimp only; rw [if_neg (by omega), if_pos hkd])
        go_wp2_with (at_builtin; refine appS rfl (.tmp 48) (.tmp 56) rfl rfl HO5.out (stepTx (x1, x2, x3, x4, x5)) _ (by rw [HST.out]; rfl) rfl (by simp; omega) hbz ?_; intro v7 w7 h7 k7)
        go_roundw
        case rel => exact ⟨k + 1, by omega, by go_num, by rw [take_succ_of HX.out, List.map_append]; exact h7, hb5.trans (k7.setOwn HO5.out (Nat.le_refl _) hbz)⟩
        case measure => simp [intOf]; omega
      by_cases hkd : x1 = 2
      · have kd0 : (x1 == (0 : Int)) = false := by simp <;> omega
        have kd1 : (x1 == (1 : Int)) = false := by simp <;> omega
        have kd2 : (x1 == (2 : Int)) = true := by simp <;> omega
        obtain ⟨t1, ht1, T1⟩ := addY (a := bs (fmtI x2)) (b := { data := #[58] }) (show bs (fmtI x2) = bs (fmtI x2) from rfl) (show _ = bs [58] from rfl) (by (try simp only [List.length_append, List.length_cons, List.length_nil]); omega)
        obtain ⟨t2, ht2, T2⟩ := addY (a := t1) (b := bs (fmtI x3)) T1.out rfl (by (try simp only [List.length_append, List.length_cons, List.length_nil]); omega)
        obtain ⟨t3, ht3, T3⟩ := addY (a := t2) (b := { data := #[45] }) T2.out (show _ = bs [45] from rfl) (by (try simp only [List.length_append, List.length_cons, List.length_nil]); omega)
        obtain ⟨t4, ht4, T4⟩ := addY (a := t3) (b := bs (fmtI x4)) T3.out rfl (by (try simp only [List.length_append, List.length_cons, List.length_nil]); omega)
        obtain ⟨t5, ht5, T5⟩ := addY (a := t4) (b := { data := #[44] }) T4.out (show _ = bs [44] from rfl) (by (try simp only [List.length_append, List.length_cons, List.length_nil]); omega)
        obtain ⟨t6, ht6, T6⟩ := addY (a := t5) (b := bs (fmtI x5)) T5.out rfl (by (try simp only [List.length_append, List.length_cons, List.length_nil]); omega)
        have HST : Hid (t6 = bs (stepTx (x1, x2, x3, x4, x5))) := Lib.hid (by rw [T6.out]; unfold stepTx; dsimp only; rw [if_neg (by omega), if_neg (by omega), if_pos hkd])
        go_wp2_with (at_builtin; refine appS rfl (.tmp 60) (.tmp 71) rfl rfl HO5.out (stepTx (x1, x2, x3, x4, x5)) _ (by rw [HST.out]; rfl) rfl (by simp; omega) hbz ?_; intro v7 w7 h7 k7)
        go_roundw
        case rel => exact ⟨k + 1, by omega, by go_num, by rw [take_succ_of HX.out, List.map_append]; exact h7, hb5.trans (k7.setOwn HO5.out (Nat.le_refl _) hbz)⟩
        case measure => simp [intOf]; omega
      have kd0 : (x1 == (0 : Int)) = false := by simp <;> omega
      have kd1 : (x1 == (1 : Int)) = false := by simp <;> omega
      have kd2 : (x1 == (2 : Int)) = false := by simp <;> omega
      have HST : Hid (stepTx (x1, x2, x3, x4, x5) = [63]) := Lib.hid (by unfold stepTx; dsimp only; rw [if_neg (by omega), if_neg (by omega), if_neg (by omega)])
      go_wp2_with (at_builtin; refine appS rfl (.tmp 34) (.tmp 35) rfl rfl HO5.out (stepTx (x1, x2, x3, x4, x5)) _ (by rw [HST.out]; rfl) rfl (by simp; omega) hbz ?_; intro v7 w7 h7 k7)
      go_roundw
      case rel => exact ⟨k + 1, by omega, by go_num, by rw [take_succ_of HX.out, List.map_append]; exact h7, hb5.trans (k7.setOwn HO5.out (Nat.le_refl _) hbz)⟩
      case measure => simp [intOf]; omega
    · obtain rfl : k = l.length := by omega
      have hki : decide ((l.length : Int) < (l.length : Int)) = false := by simp
      have ho := HO.out
      rw [List.take_length] at ho
      obtain ⟨g, cg, rfl, hg, hgb, hcs⟩ := ho.form (by simpa using hl0)
      have hlm : (l.map stepTx).length = l.length := List.length_map _
      have HG : Hid (Calls Try.prog 29 #[.slice (some ⟨g, 0, none⟩) l.length cg, .string { data := #[32] }] wr fun e w' => e = .returned (.string (bs (fmtSt l))) ∧ wr = w') := Lib.hid (by
        have h9 := glued_at wr g cg 90 (l.map stepTx) (fun j t ht => ⟨hcs j t ht, by
          obtain ⟨x, hx, rfl⟩ := List.mem_map.1 (List.mem_of_getElem? ht)
          exact HTL.out x hx⟩) { data := #[32] } [32] rfl (by rw [hlm]; simp only [List.length_cons, List.length_nil]; omega) (by rw [hlm]; exact hn)
        rw [hlm] at h9
        rwa [HE.out])
      simp only [hlm]
      clear ho hcs hlm
      go_wp2_with fail
      refine HG.out.mono ?_
      rintro e w7 ⟨rfl, rfl⟩
      go_wp2_with fail
      go_ret
      exact ⟨rfl, hb⟩
theorem impl_FormatSteps (W : World) (v : Value) (l : List StepT) (h : IsSteps W v l) (hn : l.length ≤ 1048576) (hok : OkSteps l) : Calls Try.prog 10 #[v] W fun e w' => e = .returned (.string (bs (fmtSt l))) ∧ Below W.heap.size W w' := by
  obtain ⟨a, cap, rfl, hi⟩ := h
  exact implFs_at _ _ _ _ hi hn hok
end Go.Proofs.Ytnjecekaenddiaa
