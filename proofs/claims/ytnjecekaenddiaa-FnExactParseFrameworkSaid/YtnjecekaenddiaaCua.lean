/- Cutting a text at a sign: the reference and the program. Condition: texts up to 2^20 bytes. -/
import Derived.Test.YtnjecekaenddiaaPrs0
namespace Go.Proofs.Ytnjecekaenddiaa
open Go.RowKit
set_option maxRecDepth 100000
set_option linter.unusedVariables false
set_option linter.unusedSimpArgs false

theorem ixS {s : ByteArray} {l : List UInt8} (hs : s = bs l) {k : Nat} {c : UInt8} (h : l[k]? = some c) : ∀ w, (Instr.index 9 (.string s) (.int .i64 (k : Int))).run Try.prog w = .ok (.int .u8 (c.toNat : Int)) w := by
  intro w
  subst hs
  have hk := lt_of_getElem? h
  rw [run_index_string w _ _ _ _ Try.underlying9, dif_pos (by rw [bs_size]; omega)]
  have e : (bs l)[(k : Int).toNat]'(by rw [bs_size]; omega) = c := by
    rw [List.getElem?_eq_getElem hk] at h
    simp only [Option.some.injEq] at h
    rw [← h]
    rfl
  rw [e]
theorem ext_bs (l : List UInt8) (i j : Nat) : (bs l).extract i j = bs ((l.take j).drop i) := by
  refine bs_of ?_
  simp [ByteArray.data_extract, bs_data, bs, List.extract_eq_take_drop, List.drop_take]
theorem cutS {s : ByteArray} {l : List UInt8} (hs : s = bs l) {i j : Nat} (h : i ≤ j) (h2 : j ≤ l.length) : ∃ t, (∀ w, (Instr.slice 9 (.string s) (some (.int .i64 (i : Int))) (some (.int .i64 (j : Int))) none).run Try.prog w = .ok (.string t) w) ∧ Hid (t = bs ((l.take j).drop i)) := by
  subst hs
  refine ⟨_, fun w => ?_, Lib.hid rfl⟩
  rw [run_slice_string w _ _ _ _ _ _ Try.underlying9 (by omega) (by omega) (by rw [bs_size]; omega), ← ext_bs]
  simp
theorem cutS_from {s : ByteArray} {l : List UInt8} (hs : s = bs l) {i : Nat} (h : i ≤ l.length) : ∃ t, (∀ w, (Instr.slice 9 (.string s) (some (.int .i64 (i : Int))) none none).run Try.prog w = .ok (.string t) w) ∧ Hid (t = bs (l.drop i)) := by
  subst hs
  refine ⟨_, fun w => ?_, Lib.hid rfl⟩
  rw [run_slice_string_from_if w _ _ _ _ Try.underlying9, if_pos (by rw [bs_size]; omega)]
  have : bs (l.drop i) = (bs l).extract i l.length := by rw [ext_bs, List.take_length]
  rw [this, bs_size]
  simp
theorem cutS_to {s : ByteArray} {l : List UInt8} (hs : s = bs l) {j : Nat} (h : j ≤ l.length) : ∃ t, (∀ w, (Instr.slice 9 (.string s) none (some (.int .i64 (j : Int))) none).run Try.prog w = .ok (.string t) w) ∧ Hid (t = bs (l.take j)) := by
  subst hs
  refine ⟨_, fun w => ?_, Lib.hid rfl⟩
  rw [run_slice_string_to_if w _ _ _ _ Try.underlying9, if_pos (by rw [bs_size]; omega)]
  have : bs (l.take j) = (bs l).extract 0 j := by rw [ext_bs, List.drop_zero]
  rw [this]
  simp
theorem drop_snoc {l : List UInt8} {k f : Nat} {c : UInt8} (h : l[k]? = some c) (hf : f ≤ k) : (l.take (k + 1)).drop f = (l.take k).drop f ++ [c] := by
  have := lt_of_getElem? h
  rw [take_succ_of h, List.drop_append_of_le_length (by simp; omega)]

set_option maxHeartbeats 4000000 in
theorem spec_l2Cut (W : World) (S : ByteArray) (l : List UInt8) (hS : S = bs l) (hn : l.length ≤ 1048576) (b : UInt8) (bi : Int) (hb : bi = (b.toNat : Int)) :
    Calls Try.prog 38 #[.string S, .int .u8 bi] W fun e w' => ∃ v, e = .returned v ∧ OwnStrs w' W.heap.size v (cutL b l) ∧ Below W.heap.size W w' := by
  have HS := Lib.hid hS
  have HB := Lib.hid hb
  have hsz : S.size = l.length := by rw [hS, bs_size]
  clear hS hb
  go_enter Try.func38, Try.ntmps38
  go_wp2_with fail
  go_loopw [5, 6, 7] (fun o p i w9 => ∃ (k : Nat) (s : ByteArray), k ≤ l.length ∧ i = .int .i64 k ∧ p = .string s ∧ s = bs (cutF b (l.take k)).2 ∧ OwnStrs w9 W.heap.size o (cutF b (l.take k)).1 ∧ Below W.heap.size W w9) (fun _ _ i _ => l.length - (intOf i).toNat)
  case atStart => exact ⟨0, _, Nat.zero_le _, rfl, rfl, rfl, OwnStrs.made _ _ (Nat.le_refl _), (Below.refl _ _).alloc (Nat.le_refl _) _⟩
  case round =>
    obtain ⟨k, s, hk, rfl, rfl, hs, ho, hbl⟩ := hrel
    have HSS := Lib.hid hs
    have HO := Lib.hid ho
    clear hs ho
    obtain ⟨hl1, hl2, -, -, -, -⟩ := cutF_len b (l.take k)
    have hlt2 : (l.take k).length ≤ k := List.length_take_le _ _
    obtain ⟨F, hF⟩ : ∃ F, F = cutF b (l.take k) := ⟨_, rfl⟩
    rw [← hF] at HSS HO hl1 hl2
    have HF := Lib.hid hF
    clear hF
    have hki0 : (0 : Int) ≤ (k : Int) := by omega
    by_cases hlt : k < l.length
    · obtain ⟨c, hc⟩ : ∃ c, l[k]? = some c := ⟨_, List.getElem?_eq_getElem hlt⟩
      have hlti : (k : Int) < (l.length : Int) := by omega
      have hix := ixS HS.out hc
      by_cases hcb : c = b
      · have hce : ((c.toNat : Int) == bi) = true := by rw [HB.out, hcb]; simp
        have HN := Lib.hid (cutF_hit (k := k) hc hcb)
        clear hc hcb
        go_wp2_with (at_builtin; refine appS rfl (.tmp 20) (.tmp 22) rfl rfl HO.out F.2 _ (by rw [HSS.out]; rfl) rfl (by omega) hbl.size ?_; intro v7 w7 h7 k7)
        go_roundw
        case rel => exact ⟨k + 1, _, by omega, by go_num, rfl, by rw [HN.out]; rfl, by rw [HN.out, ← HF.out]; exact h7, hbl.trans (k7.setOwn HO.out (Nat.le_refl _) hbl.size)⟩
        case measure => simp [intOf]; omega
      · have hce : ((c.toNat : Int) == bi) = false := by
          rw [HB.out, beq_eq_false_iff_ne]
          intro e
          exact hcb (UInt8.toNat_inj.1 (by omega))
        have HN := Lib.hid (cutF_miss (k := k) hc hcb)
        have HC := Lib.hid hc
        clear hc hcb
        have hk1 := IntWalk.i64_in ((k : Int) + 1) (by omega)
        obtain ⟨t1, ht1, T1⟩ := cutS HS.out (i := k) (j := k + 1) (by omega) (by omega)
        have HT1 : Hid (t1 = bs [c]) := Lib.hid (by rw [T1.out, drop_snoc HC.out (Nat.le_refl _), List.drop_of_length_le (by omega)]; rfl)
        obtain ⟨t2, ht2, T2⟩ := addY HSS.out HT1.out (by simp; omega)
        rw [show (((k + 1 : Nat)) : Int) = (k : Int) + 1 by omega] at ht1
        go_wp2_with fail
        go_roundw
        case rel => exact ⟨k + 1, t2, by omega, by go_num, rfl, by rw [T2.out, HN.out, ← HF.out], by rw [HN.out, ← HF.out]; exact HO.out, hbl⟩
        case measure => simp [intOf]; omega
    · obtain rfl : k = l.length := by omega
      have HE : Hid (cutL b l = F.1 ++ [F.2]) := Lib.hid (by unfold cutL; rw [HF.out, List.take_length])
      go_wp2_with (at_builtin; refine appS rfl (.tmp 31) (.tmp 33) rfl rfl HO.out F.2 _ (by rw [HSS.out]; rfl) rfl (by omega) hbl.size ?_; intro v7 w7 h7 k7)
      go_ret
      exact ⟨_, rfl, by rw [HE.out]; exact h7, hbl.trans (k7.setOwn HO.out (Nat.le_refl _) hbl.size)⟩

set_option maxHeartbeats 4000000 in
theorem impl_cut (W : World) (S : ByteArray) (l : List UInt8) (hS : S = bs l) (hn : l.length ≤ 1048576) (b : UInt8) (bi : Int) (hb : bi = (b.toNat : Int)) :
    Calls Try.prog 41 #[.string S, .int .u8 bi] W fun e w' => ∃ v, e = .returned v ∧ OwnStrs w' W.heap.size v (cutL b l) ∧ Below W.heap.size W w' := by
  have HS := Lib.hid hS
  have HB := Lib.hid hb
  have hsz : S.size = l.length := by rw [hS, bs_size]
  clear hS hb
  go_enter Try.func41, Try.ntmps41
  go_wp2_with fail
  go_loopw [5, 6, 7] (fun o p i w9 => ∃ (k f : Nat), k ≤ l.length ∧ f ≤ k ∧ i = .int .i64 k ∧ p = .int .i64 f ∧ (cutF b (l.take k)).2 = (l.take k).drop f ∧ OwnStrs w9 W.heap.size o (cutF b (l.take k)).1 ∧ Below W.heap.size W w9) (fun _ _ i _ => l.length - (intOf i).toNat)
  case atStart => exact ⟨0, 0, Nat.zero_le _, Nat.le_refl _, rfl, rfl, rfl, OwnStrs.made _ _ (Nat.le_refl _), (Below.refl _ _).alloc (Nat.le_refl _) _⟩
  case round =>
    obtain ⟨k, f, hk, hfk, rfl, rfl, hs, ho, hbl⟩ := hrel
    have HSS := Lib.hid hs
    have HO := Lib.hid ho
    clear hs ho
    obtain ⟨hl1, hl2, -, -, -, -⟩ := cutF_len b (l.take k)
    have hlt2 : (l.take k).length ≤ k := List.length_take_le _ _
    obtain ⟨F, hF⟩ : ∃ F, F = cutF b (l.take k) := ⟨_, rfl⟩
    rw [← hF] at HSS HO hl1 hl2
    have HF := Lib.hid hF
    clear hF
    have hki0 : (0 : Int) ≤ (k : Int) := by omega
    by_cases hlt : k < l.length
    · obtain ⟨c, hc⟩ : ∃ c, l[k]? = some c := ⟨_, List.getElem?_eq_getElem hlt⟩
      have hlti : (k : Int) < (l.length : Int) := by omega
      have hix := ixS HS.out hc
      by_cases hcb : c = b
      · have hce : ((c.toNat : Int) == bi) = true := by rw [HB.out, hcb]; simp
        have HN := Lib.hid (cutF_hit (k := k) hc hcb)
        clear hc hcb
        obtain ⟨t1, ht1, T1⟩ := cutS HS.out (i := f) (j := k) hfk hk
        go_wp2_with (at_builtin; refine appS rfl (.tmp 20) (.tmp 25) rfl rfl HO.out F.2 _ (by rw [T1.out, HSS.out]; rfl) rfl (by omega) hbl.size ?_; intro v7 w7 h7 k7)
        go_roundw
        case rel => exact ⟨k + 1, k + 1, by omega, Nat.le_refl _, by go_num, by go_num, by rw [HN.out, List.drop_of_length_le (List.length_take_le _ _)], by rw [HN.out, ← HF.out]; exact h7, hbl.trans (k7.setOwn HO.out (Nat.le_refl _) hbl.size)⟩
        case measure => simp [intOf]; omega
      · have hce : ((c.toNat : Int) == bi) = false := by
          rw [HB.out, beq_eq_false_iff_ne]
          intro e
          exact hcb (UInt8.toNat_inj.1 (by omega))
        have HN := Lib.hid (cutF_miss (k := k) hc hcb)
        have HC := Lib.hid hc
        clear hc hcb
        go_wp2_with fail
        go_roundw
        case rel => exact ⟨k + 1, f, by omega, by omega, by go_num, rfl, by rw [HN.out, ← HF.out, HSS.out, drop_snoc HC.out hfk], by rw [HN.out, ← HF.out]; exact HO.out, hbl⟩
        case measure => simp [intOf]; omega
    · obtain rfl : k = l.length := by omega
      have HE : Hid (cutL b l = F.1 ++ [F.2]) := Lib.hid (by unfold cutL; rw [HF.out, List.take_length])
      obtain ⟨t1, ht1, T1⟩ := cutS_from HS.out (i := f) hfk
      go_wp2_with (at_builtin; refine appS rfl (.tmp 29) (.tmp 33) rfl rfl HO.out F.2 _ (by rw [T1.out, HSS.out, List.take_length]; rfl) rfl (by omega) hbl.size ?_; intro v7 w7 h7 k7)
      go_ret
      exact ⟨_, rfl, by rw [HE.out]; exact h7, hbl.trans (k7.setOwn HO.out (Nat.le_refl _) hbl.size)⟩
end Go.Proofs.Ytnjecekaenddiaa
