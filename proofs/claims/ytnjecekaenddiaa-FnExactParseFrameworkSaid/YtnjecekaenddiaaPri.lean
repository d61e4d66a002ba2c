/- Reading a number: ParseInt of the reference and of the program, l2Number. Condition: texts up to 2^20 bytes. -/
import Derived.Test.YtnjecekaenddiaaCua
import Derived.OwnWalk
namespace Go.Proofs.Ytnjecekaenddiaa
open Go.RowKit
set_option maxRecDepth 100000
set_option linter.unusedVariables false
set_option linter.unusedSimpArgs false

def nmStep (n : Nat) (c : UInt8) : Nat := if 48 ≤ c.toNat ∧ c.toNat ≤ 57 then n * 10 + (c.toNat - 48) else n
def nmTo (l : List UInt8) (k : Nat) : Nat := (l.take k).foldl nmStep 0
theorem nmTo_step {l : List UInt8} {k : Nat} {c : UInt8} (h : l[k]? = some c) : nmTo l (k + 1) = nmStep (nmTo l k) c := by
  unfold nmTo; rw [take_succ_of h, List.foldl_append]; rfl
theorem nmTo_dig {l : List UInt8} {k : Nat} {c : UInt8} (h : l[k]? = some c) (h1 : 48 ≤ c.toNat) (h2 : c.toNat ≤ 57) : nmTo l (k + 1) = nmTo l k * 10 + (c.toNat - 48) := by
  rw [nmTo_step h, nmStep, if_pos ⟨h1, h2⟩]
theorem nmTo_no {l : List UInt8} {k : Nat} {c : UInt8} (h : l[k]? = some c) (h1 : c.toNat < 48 ∨ 57 < c.toNat) : nmTo l (k + 1) = nmTo l k := by
  rw [nmTo_step h, nmStep, if_neg (by omega)]
theorem nmTo_lt (l : List UInt8) : ∀ k, nmTo l k < 10 ^ k
  | 0 => by simp [nmTo]
  | k + 1 => by
    have ih := nmTo_lt l k
    have e : 10 ^ (k + 1) = 10 ^ k * 10 := Nat.pow_succ ..
    cases h : l[k]? with
    | none =>
      have : nmTo l (k + 1) = nmTo l k := by
        have hl := List.getElem?_eq_none_iff.1 h
        unfold nmTo; rw [List.take_of_length_le (by omega), List.take_of_length_le (by omega)]
      omega
    | some c =>
      by_cases hd : 48 ≤ c.toNat ∧ c.toNat ≤ 57
      · rw [nmTo_dig h hd.1 hd.2]; omega
      · rw [nmTo_no h (by omega)]; omega
theorem nmTo_bd (l : List UInt8) {k : Nat} (h : k ≤ 11) : nmTo l k < 100000000000 := Nat.lt_of_lt_of_le (nmTo_lt l k) (Nat.le_trans (Nat.pow_le_pow_right (by decide) h) (by decide))
theorem nmTo_bd2 (l : List UInt8) {k : Nat} (h : k < 11) : nmTo l k < 10000000000 := Nat.lt_of_lt_of_le (nmTo_lt l k) (Nat.le_trans (Nat.pow_le_pow_right (by decide) (show k ≤ 10 by omega)) (by decide))
/-- what is asked of a number that is read, and of the word on it -/
def Nb (l : List UInt8) (n : Int) (b : Bool) : Prop := (-9000000000000 ≤ n ∧ n ≤ 9000000000000) ∧ ∀ d : Nat, d < 10 → l = [UInt8.ofNat (48 + d)] → n = d ∧ b = true
theorem Nb.nm {l : List UInt8} {n : Int} {b : Bool} (h : Nb l n b) : Nm l n := ⟨h.1, fun d h1 h2 => (h.2 d h1 h2).1⟩
def RetNb (W : World) (l : List UInt8) (e : Ending) (w' : World) : Prop := ∃ n b, e = .returned (.tuple #[.int .i64 n, .bool b]) ∧ Nb l n b ∧ Below W.heap.size W w'
theorem RetNb.mk {W : World} {l : List UInt8} {e : Ending} {w' : World} {n : Int} {b : Bool} (h : e = .returned (.tuple #[.int .i64 n, .bool b])) (h1 : Nb l n b) (h2 : Below W.heap.size W w') : RetNb W l e w' := ⟨n, b, h, h1, h2⟩
theorem dig1 {l : List UInt8} {d : Nat} (hd : d < 10) (h : l = [UInt8.ofNat (48 + d)]) : l.length = 1 ∧ nmTo l 1 = d ∧ fmtI (d : Int) = l ∧ ∀ c, l[0]? = some c → c.toNat = 48 + d := by
  have e : (UInt8.ofNat (48 + d)).toNat = 48 + d := by rw [UInt8.toNat_ofNat']; omega
  subst h
  refine ⟨rfl, ?_, fmtI_digit hd, fun c hc => ?_⟩
  · have := nmTo_dig (l := [UInt8.ofNat (48 + d)]) (k := 0) rfl (by rw [e]; omega) (by rw [e]; omega)
    rw [this, e]; simp [nmTo]
  · rw [List.getElem?_cons_zero, Option.some.injEq] at hc; rw [← hc]; exact e
theorem eqS {s t : ByteArray} {l m : List UInt8} (hs : s = bs l) (ht : t = bs m) : (s.toList == t.toList) = decide (l = m) := by
  rw [ByteArray.toList_eq, ByteArray.toList_eq, hs, ht, bs_data, bs_data]
  exact Bool.eq_iff_iff.2 (by simp)

set_option maxHeartbeats 8000000 in
theorem spec_ParseInt (W : World) (S : ByteArray) (l : List UInt8) (hS : S = bs l) (hn : l.length ≤ 1048576) :
    Calls Try.prog 62 #[.string S] W (RetNb W l) := by
  have HS := Lib.hid hS
  have hsz : S.size = l.length := by rw [hS, bs_size]
  have HD : Hid (∀ d : Nat, d < 10 → l = [UInt8.ofNat (48 + d)] → l.length = 1 ∧ nmTo l 1 = d ∧ fmtI (d : Int) = l ∧ ∀ c, l[0]? = some c → c.toNat = 48 + d) := Lib.hid fun d => dig1
  clear hS
  go_enter Try.func62, Try.ntmps62
  go_wp2_with fail
  go_loop [4, 5, 6] (fun n c i => ∃ k n0 c0 : Nat, k ≤ l.length ∧ k ≤ 11 ∧ i = .int .i64 k ∧ n = .int .i64 n0 ∧ c = .int .i64 c0 ∧ n0 = nmTo l k ∧ c0 ≤ k) (fun _ _ i => l.length - (intOf i).toNat)
  case atStart => exact ⟨0, 0, 0, Nat.zero_le _, Nat.zero_le _, rfl, rfl, rfl, rfl, Nat.le_refl _⟩
  case round =>
    obtain ⟨k, n, c, hk, hk11, rfl, rfl, rfl, hn0, hck⟩ := hrel
    have hnb := nmTo_bd l hk11
    rw [← hn0] at hnb
    have HN := Lib.hid hn0
    clear hn0
    have hki0 : (0 : Int) ≤ (k : Int) := by omega
    by_cases hlt : k < l.length
    · have hlti : (k : Int) < (l.length : Int) := by omega
      by_cases hlt11 : k < 11
      · have hlt11i : (k : Int) < 11 := by omega
        obtain ⟨ch, hch⟩ : ∃ c, l[k]? = some c := ⟨_, List.getElem?_eq_getElem hlt⟩
        have hix := ixS HS.out hch
        have hnb2 := nmTo_bd2 l hlt11
        rw [← HN.out] at hnb2
        by_cases hd1 : 48 ≤ ch.toNat
        · have hd1i : (48 : Int) ≤ (ch.toNat : Int) := by omega
          by_cases hd2 : ch.toNat ≤ 57
          · have hd2i : (ch.toNat : Int) ≤ 57 := by omega
            have HS2 := Lib.hid (nmTo_dig hch hd1 hd2)
            clear hch
            have hu := IntWalk.u8_in ((ch.toNat : Int) - 48) (by omega)
            have hu2 := IntWalk.i64_in ((ch.toNat : Int) - 48) (by omega)
            have hm := IntWalk.i64_in ((n : Int) * 10) (by omega)
            have hm2 := IntWalk.i64_in ((n : Int) * 10 + ((ch.toNat : Int) - 48)) (by omega)
            go_wp2_with fail
            go_round
            case rel => exact ⟨k + 1, n * 10 + (ch.toNat - 48), c + 1, by omega, by omega, by go_num, by go_num, by go_num, by rw [HS2.out, HN.out], by omega⟩
            case measure => simp [intOf]; omega
          · have hd2i : ¬ (ch.toNat : Int) ≤ 57 := by omega
            have HS2 := Lib.hid (nmTo_no hch (by omega))
            clear hch
            go_wp2_with fail
            go_round
            case rel => exact ⟨k + 1, n, c, by omega, by omega, by go_num, rfl, rfl, by rw [HS2.out, HN.out], by omega⟩
            case measure => simp [intOf]; omega
        · have hd1i : ¬ (48 : Int) ≤ (ch.toNat : Int) := by omega
          have HS2 := Lib.hid (nmTo_no hch (by omega))
          clear hch
          go_wp2_with fail
          go_round
          case rel => exact ⟨k + 1, n, c, by omega, by omega, by go_num, rfl, rfl, by rw [HS2.out, HN.out], by omega⟩
          case measure => simp [intOf]; omega
      · have hlt11i : ¬ (k : Int) < 11 := by omega
        have HK : Hid (∀ d : Nat, d < 10 → l = [UInt8.ofNat (48 + d)] → k = 1) := Lib.hid fun d h1 h2 => by have := (HD.out d h1 h2).1; omega
        by_cases h0 : l.length = 0
        · have h0i : ¬ (0 : Int) < (l.length : Int) := by omega
          by_cases hc9 : 9 < c
          · have hc9i : (9 : Int) < (c : Int) := by omega
            go_wp2_with fail
            all_goals (go_ret2; exact RetNb.mk rfl ⟨⟨by omega, by omega⟩, fun d h1 h2 => by have := HK.out d h1 h2; omega⟩ (Below.refl _ _))
          · have hc9i : ¬ (9 : Int) < (c : Int) := by omega
            by_cases hl10 : 10 < l.length
            · have hl10i : (10 : Int) < (l.length : Int) := by omega
              go_wp2_with fail
              all_goals (go_ret2; exact RetNb.mk rfl ⟨⟨by omega, by omega⟩, fun d h1 h2 => by have := (HD.out d h1 h2).1; omega⟩ (Below.refl _ _))
            · have hl10i : ¬ (10 : Int) < (l.length : Int) := by omega
              have HX : Hid (∀ d : Nat, d < 10 → l = [UInt8.ofNat (48 + d)] → (n : Int) = (d : Int)) := Lib.hid (fun d h1 h2 => by have := (HD.out d h1 h2).1; omega)
              obtain ⟨fs, hfs⟩ : ∃ fs, fs = bs (fmtI ((n : Int))) := ⟨_, rfl⟩
              have HCF : Hid (∀ w, Calls Try.prog 26 #[.int .i64 ((n : Int))] w fun e w' => e = .returned (.string fs) ∧ Below w.heap.size w w') := Lib.hid fun w => by rw [hfs]; exact spec_FormatInt ((n : Int)) w (by omega) (by omega)
              have HFS := Lib.hid hfs
              clear hfs
              have hq := eqS HFS.out HS.out
              by_cases hqq : fmtI ((n : Int)) = l
              · rw [decide_eq_true hqq] at hq
                clear hqq
                go_wp2_with (go_at_call 26; refine (HCF.out _).mono ?_; rintro e w5 ⟨rfl, b5⟩)
                all_goals (go_ret2; exact RetNb.mk rfl ⟨⟨by omega, by omega⟩, fun d h1 h2 => ⟨HX.out d h1 h2, rfl⟩⟩ (b5))
              · rw [decide_eq_false hqq] at hq
                have HQ := Lib.hid hqq
                clear hqq
                go_wp2_with (go_at_call 26; refine (HCF.out _).mono ?_; rintro e w5 ⟨rfl, b5⟩)
                all_goals (go_ret2; exact RetNb.mk rfl ⟨⟨by omega, by omega⟩, fun d h1 h2 => absurd (by rw [HX.out d h1 h2]; exact (HD.out d h1 h2).2.2.1) HQ.out⟩ (b5))
        · have h0i : (0 : Int) < (l.length : Int) := by omega
          obtain ⟨c0, hc0⟩ : ∃ c0, l[0]? = some c0 := ⟨_, List.getElem?_eq_getElem (by omega)⟩
          have hix0 := ixS HS.out hc0
          rw [show ((0 : Nat) : Int) = 0 from rfl] at hix0
          have HC0 := Lib.hid hc0
          clear hc0
          by_cases h45 : (c0.toNat : Int) = 45
          · have hce : ((c0.toNat : Int) == 45) = true := by rw [h45]; rfl
            have hng := IntWalk.i64_in (-(n : Int)) (by omega)
            have H45 := Lib.hid h45
            clear h45
            by_cases hc9 : 9 < c
            · have hc9i : (9 : Int) < (c : Int) := by omega
              go_wp2_with fail
              all_goals (go_ret2; exact RetNb.mk rfl ⟨⟨by omega, by omega⟩, fun d h1 h2 => by have := HK.out d h1 h2; omega⟩ (Below.refl _ _))
            · have hc9i : ¬ (9 : Int) < (c : Int) := by omega
              by_cases hl10 : 10 < l.length
              · have hl10i : (10 : Int) < (l.length : Int) := by omega
                go_wp2_with fail
                all_goals (go_ret2; exact RetNb.mk rfl ⟨⟨by omega, by omega⟩, fun d h1 h2 => by have := (HD.out d h1 h2).1; omega⟩ (Below.refl _ _))
              · have hl10i : ¬ (10 : Int) < (l.length : Int) := by omega
                have HX : Hid (∀ d : Nat, d < 10 → l = [UInt8.ofNat (48 + d)] → (-(n : Int)) = (d : Int)) := Lib.hid (fun d h1 h2 => by have h3 := (HD.out d h1 h2).2.2.2 c0 HC0.out; have h4 := H45.out; omega)
                obtain ⟨fs, hfs⟩ : ∃ fs, fs = bs (fmtI ((-(n : Int)))) := ⟨_, rfl⟩
                have HCF : Hid (∀ w, Calls Try.prog 26 #[.int .i64 ((-(n : Int)))] w fun e w' => e = .returned (.string fs) ∧ Below w.heap.size w w') := Lib.hid fun w => by rw [hfs]; exact spec_FormatInt ((-(n : Int))) w (by omega) (by omega)
                have HFS := Lib.hid hfs
                clear hfs
                have hq := eqS HFS.out HS.out
                by_cases hqq : fmtI ((-(n : Int))) = l
                · rw [decide_eq_true hqq] at hq
                  clear hqq
                  go_wp2_with (go_at_call 26; refine (HCF.out _).mono ?_; rintro e w5 ⟨rfl, b5⟩)
                  all_goals (go_ret2; exact RetNb.mk rfl ⟨⟨by omega, by omega⟩, fun d h1 h2 => ⟨HX.out d h1 h2, rfl⟩⟩ (b5))
                · rw [decide_eq_false hqq] at hq
                  have HQ := Lib.hid hqq
                  clear hqq
                  go_wp2_with (go_at_call 26; refine (HCF.out _).mono ?_; rintro e w5 ⟨rfl, b5⟩)
                  all_goals (go_ret2; exact RetNb.mk rfl ⟨⟨by omega, by omega⟩, fun d h1 h2 => absurd (by rw [HX.out d h1 h2]; exact (HD.out d h1 h2).2.2.1) HQ.out⟩ (b5))
          · have hce : ((c0.toNat : Int) == 45) = false := by rw [beq_eq_false_iff_ne]; exact h45
            clear h45
            by_cases hc9 : 9 < c
            · have hc9i : (9 : Int) < (c : Int) := by omega
              go_wp2_with fail
              all_goals (go_ret2; exact RetNb.mk rfl ⟨⟨by omega, by omega⟩, fun d h1 h2 => by have := HK.out d h1 h2; omega⟩ (Below.refl _ _))
            · have hc9i : ¬ (9 : Int) < (c : Int) := by omega
              by_cases hl10 : 10 < l.length
              · have hl10i : (10 : Int) < (l.length : Int) := by omega
                go_wp2_with fail
                all_goals (go_ret2; exact RetNb.mk rfl ⟨⟨by omega, by omega⟩, fun d h1 h2 => by have := (HD.out d h1 h2).1; omega⟩ (Below.refl _ _))
              · have hl10i : ¬ (10 : Int) < (l.length : Int) := by omega
                have HX : Hid (∀ d : Nat, d < 10 → l = [UInt8.ofNat (48 + d)] → (n : Int) = (d : Int)) := Lib.hid (fun d h1 h2 => by have h3 := HK.out d h1 h2; have h4 := HN.out; have h5 := (HD.out d h1 h2).2.1; rw [h3] at h4; omega)
                obtain ⟨fs, hfs⟩ : ∃ fs, fs = bs (fmtI ((n : Int))) := ⟨_, rfl⟩
                have HCF : Hid (∀ w, Calls Try.prog 26 #[.int .i64 ((n : Int))] w fun e w' => e = .returned (.string fs) ∧ Below w.heap.size w w') := Lib.hid fun w => by rw [hfs]; exact spec_FormatInt ((n : Int)) w (by omega) (by omega)
                have HFS := Lib.hid hfs
                clear hfs
                have hq := eqS HFS.out HS.out
                by_cases hqq : fmtI ((n : Int)) = l
                · rw [decide_eq_true hqq] at hq
                  clear hqq
                  go_wp2_with (go_at_call 26; refine (HCF.out _).mono ?_; rintro e w5 ⟨rfl, b5⟩)
                  all_goals (go_ret2; exact RetNb.mk rfl ⟨⟨by omega, by omega⟩, fun d h1 h2 => ⟨HX.out d h1 h2, rfl⟩⟩ (b5))
                · rw [decide_eq_false hqq] at hq
                  have HQ := Lib.hid hqq
                  clear hqq
                  go_wp2_with (go_at_call 26; refine (HCF.out _).mono ?_; rintro e w5 ⟨rfl, b5⟩)
                  all_goals (go_ret2; exact RetNb.mk rfl ⟨⟨by omega, by omega⟩, fun d h1 h2 => absurd (by rw [HX.out d h1 h2]; exact (HD.out d h1 h2).2.2.1) HQ.out⟩ (b5))
    · have hlti : ¬ (k : Int) < (l.length : Int) := by omega
      have HK : Hid (∀ d : Nat, d < 10 → l = [UInt8.ofNat (48 + d)] → k = 1) := Lib.hid fun d h1 h2 => by have := (HD.out d h1 h2).1; omega
      by_cases h0 : l.length = 0
      · have h0i : ¬ (0 : Int) < (l.length : Int) := by omega
        by_cases hc9 : 9 < c
        · have hc9i : (9 : Int) < (c : Int) := by omega
          go_wp2_with fail
          all_goals (go_ret2; exact RetNb.mk rfl ⟨⟨by omega, by omega⟩, fun d h1 h2 => by have := HK.out d h1 h2; omega⟩ (Below.refl _ _))
        · have hc9i : ¬ (9 : Int) < (c : Int) := by omega
          by_cases hl10 : 10 < l.length
          · have hl10i : (10 : Int) < (l.length : Int) := by omega
            go_wp2_with fail
            all_goals (go_ret2; exact RetNb.mk rfl ⟨⟨by omega, by omega⟩, fun d h1 h2 => by have := (HD.out d h1 h2).1; omega⟩ (Below.refl _ _))
          · have hl10i : ¬ (10 : Int) < (l.length : Int) := by omega
            have HX : Hid (∀ d : Nat, d < 10 → l = [UInt8.ofNat (48 + d)] → (n : Int) = (d : Int)) := Lib.hid (fun d h1 h2 => by have := (HD.out d h1 h2).1; omega)
            obtain ⟨fs, hfs⟩ : ∃ fs, fs = bs (fmtI ((n : Int))) := ⟨_, rfl⟩
            have HCF : Hid (∀ w, Calls Try.prog 26 #[.int .i64 ((n : Int))] w fun e w' => e = .returned (.string fs) ∧ Below w.heap.size w w') := Lib.hid fun w => by rw [hfs]; exact spec_FormatInt ((n : Int)) w (by omega) (by omega)
            have HFS := Lib.hid hfs
            clear hfs
            have hq := eqS HFS.out HS.out
            by_cases hqq : fmtI ((n : Int)) = l
            · rw [decide_eq_true hqq] at hq
              clear hqq
              go_wp2_with (go_at_call 26; refine (HCF.out _).mono ?_; rintro e w5 ⟨rfl, b5⟩)
              all_goals (go_ret2; exact RetNb.mk rfl ⟨⟨by omega, by omega⟩, fun d h1 h2 => ⟨HX.out d h1 h2, rfl⟩⟩ (b5))
            · rw [decide_eq_false hqq] at hq
              have HQ := Lib.hid hqq
              clear hqq
              go_wp2_with (go_at_call 26; refine (HCF.out _).mono ?_; rintro e w5 ⟨rfl, b5⟩)
              all_goals (go_ret2; exact RetNb.mk rfl ⟨⟨by omega, by omega⟩, fun d h1 h2 => absurd (by rw [HX.out d h1 h2]; exact (HD.out d h1 h2).2.2.1) HQ.out⟩ (b5))
      · have h0i : (0 : Int) < (l.length : Int) := by omega
        obtain ⟨c0, hc0⟩ : ∃ c0, l[0]? = some c0 := ⟨_, List.getElem?_eq_getElem (by omega)⟩
        have hix0 := ixS HS.out hc0
        rw [show ((0 : Nat) : Int) = 0 from rfl] at hix0
        have HC0 := Lib.hid hc0
        clear hc0
        by_cases h45 : (c0.toNat : Int) = 45
        · have hce : ((c0.toNat : Int) == 45) = true := by rw [h45]; rfl
          have hng := IntWalk.i64_in (-(n : Int)) (by omega)
          have H45 := Lib.hid h45
          clear h45
          by_cases hc9 : 9 < c
          · have hc9i : (9 : Int) < (c : Int) := by omega
            go_wp2_with fail
            all_goals (go_ret2; exact RetNb.mk rfl ⟨⟨by omega, by omega⟩, fun d h1 h2 => by have := HK.out d h1 h2; omega⟩ (Below.refl _ _))
          · have hc9i : ¬ (9 : Int) < (c : Int) := by omega
            by_cases hl10 : 10 < l.length
            · have hl10i : (10 : Int) < (l.length : Int) := by omega
              go_wp2_with fail
              all_goals (go_ret2; exact RetNb.mk rfl ⟨⟨by omega, by omega⟩, fun d h1 h2 => by have := (HD.out d h1 h2).1; omega⟩ (Below.refl _ _))
            · have hl10i : ¬ (10 : Int) < (l.length : Int) := by omega
              have HX : Hid (∀ d : Nat, d < 10 → l = [UInt8.ofNat (48 + d)] → (-(n : Int)) = (d : Int)) := Lib.hid (fun d h1 h2 => by have h3 := (HD.out d h1 h2).2.2.2 c0 HC0.out; have h4 := H45.out; omega)
              obtain ⟨fs, hfs⟩ : ∃ fs, fs = bs (fmtI ((-(n : Int)))) := ⟨_, rfl⟩
              have HCF : Hid (∀ w, Calls Try.prog 26 #[.int .i64 ((-(n : Int)))] w fun e w' => e = .returned (.string fs) ∧ Below w.heap.size w w') := Lib.hid fun w => by rw [hfs]; exact spec_FormatInt ((-(n : Int))) w (by omega) (by omega)
              have HFS := Lib.hid hfs
              clear hfs
              have hq := eqS HFS.out HS.out
              by_cases hqq : fmtI ((-(n : Int))) = l
              · rw [decide_eq_true hqq] at hq
                clear hqq
                go_wp2_with (go_at_call 26; refine (HCF.out _).mono ?_; rintro e w5 ⟨rfl, b5⟩)
                all_goals (go_ret2; exact RetNb.mk rfl ⟨⟨by omega, by omega⟩, fun d h1 h2 => ⟨HX.out d h1 h2, rfl⟩⟩ (b5))
              · rw [decide_eq_false hqq] at hq
                have HQ := Lib.hid hqq
                clear hqq
                go_wp2_with (go_at_call 26; refine (HCF.out _).mono ?_; rintro e w5 ⟨rfl, b5⟩)
                all_goals (go_ret2; exact RetNb.mk rfl ⟨⟨by omega, by omega⟩, fun d h1 h2 => absurd (by rw [HX.out d h1 h2]; exact (HD.out d h1 h2).2.2.1) HQ.out⟩ (b5))
        · have hce : ((c0.toNat : Int) == 45) = false := by rw [beq_eq_false_iff_ne]; exact h45
          clear h45
          by_cases hc9 : 9 < c
          · have hc9i : (9 : Int) < (c : Int) := by omega
            go_wp2_with fail
            all_goals (go_ret2; exact RetNb.mk rfl ⟨⟨by omega, by omega⟩, fun d h1 h2 => by have := HK.out d h1 h2; omega⟩ (Below.refl _ _))
          · have hc9i : ¬ (9 : Int) < (c : Int) := by omega
            by_cases hl10 : 10 < l.length
            · have hl10i : (10 : Int) < (l.length : Int) := by omega
              go_wp2_with fail
              all_goals (go_ret2; exact RetNb.mk rfl ⟨⟨by omega, by omega⟩, fun d h1 h2 => by have := (HD.out d h1 h2).1; omega⟩ (Below.refl _ _))
            · have hl10i : ¬ (10 : Int) < (l.length : Int) := by omega
              have HX : Hid (∀ d : Nat, d < 10 → l = [UInt8.ofNat (48 + d)] → (n : Int) = (d : Int)) := Lib.hid (fun d h1 h2 => by have h3 := HK.out d h1 h2; have h4 := HN.out; have h5 := (HD.out d h1 h2).2.1; rw [h3] at h4; omega)
              obtain ⟨fs, hfs⟩ : ∃ fs, fs = bs (fmtI ((n : Int))) := ⟨_, rfl⟩
              have HCF : Hid (∀ w, Calls Try.prog 26 #[.int .i64 ((n : Int))] w fun e w' => e = .returned (.string fs) ∧ Below w.heap.size w w') := Lib.hid fun w => by rw [hfs]; exact spec_FormatInt ((n : Int)) w (by omega) (by omega)
              have HFS := Lib.hid hfs
              clear hfs
              have hq := eqS HFS.out HS.out
              by_cases hqq : fmtI ((n : Int)) = l
              · rw [decide_eq_true hqq] at hq
                clear hqq
                go_wp2_with (go_at_call 26; refine (HCF.out _).mono ?_; rintro e w5 ⟨rfl, b5⟩)
                all_goals (go_ret2; exact RetNb.mk rfl ⟨⟨by omega, by omega⟩, fun d h1 h2 => ⟨HX.out d h1 h2, rfl⟩⟩ (b5))
              · rw [decide_eq_false hqq] at hq
                have HQ := Lib.hid hqq
                clear hqq
                go_wp2_with (go_at_call 26; refine (HCF.out _).mono ?_; rintro e w5 ⟨rfl, b5⟩)
                all_goals (go_ret2; exact RetNb.mk rfl ⟨⟨by omega, by omega⟩, fun d h1 h2 => absurd (by rw [HX.out d h1 h2]; exact (HD.out d h1 h2).2.2.1) HQ.out⟩ (b5))

set_option maxHeartbeats 8000000 in
theorem impl_ParseInt (W : World) (S : ByteArray) (l : List UInt8) (hS : S = bs l) (hn : l.length ≤ 1048576) :
    Calls Try.prog 44 #[.string S] W (RetNb W l) := by
  have HS := Lib.hid hS
  have hsz : S.size = l.length := by rw [hS, bs_size]
  have HD : Hid (∀ d : Nat, d < 10 → l = [UInt8.ofNat (48 + d)] → l.length = 1 ∧ nmTo l 1 = d ∧ fmtI (d : Int) = l ∧ ∀ c, l[0]? = some c → c.toNat = 48 + d) := Lib.hid fun d => dig1
  clear hS
  go_enter Try.func44, Try.ntmps44
  by_cases h0 : l.length = 0
  · have h0i : ¬ (0 : Int) < (l.length : Int) := by omega
    have HAT : Hid (0 = nmTo l 0) := Lib.hid rfl
    have h0j : ¬ 0 < l.length := by omega
    have H0 := Lib.hid h0
    clear h0
    have hsub := IntWalk.i64_in ((l.length : Int) - 0) (by omega)
    by_cases hin : inB (l.length : Int) 1 9 = true
    · have hlen : 1 + 0 ≤ l.length ∧ l.length ≤ 9 + 0 := by simp [inB] at hin; omega
      go_wp2_with (go_at_call 63; refine (within_any _ _ _ _).mono ?_; rintro e w9 ⟨rfl, rfl⟩; rw [hin])
      clear hin
      go_loop [5, 6] (fun n i => ∃ k n0 : Nat, 0 ≤ k ∧ k ≤ l.length ∧ i = .int .i64 k ∧ n = .int .i64 n0 ∧ n0 = nmTo l k) (fun _ i => l.length - (intOf i).toNat)
      case atStart => exact ⟨0, 0, Nat.le_refl _, by omega, rfl, rfl, HAT.out⟩
      case round =>
        obtain ⟨k, n, hak, hk, rfl, rfl, hn0⟩ := hrel
        have hnb := nmTo_bd l (show k ≤ 11 by omega)
        rw [← hn0] at hnb
        have HN := Lib.hid hn0
        clear hn0
        have hki0 : (0 : Int) ≤ (k : Int) := by omega
        by_cases hlt : k < l.length
        · have hlti : (k : Int) < (l.length : Int) := by omega
          obtain ⟨ch, hch⟩ : ∃ c, l[k]? = some c := ⟨_, List.getElem?_eq_getElem hlt⟩
          have hix := ixS HS.out hch
          have hnb2 := nmTo_bd2 l (show k < 11 by omega)
          rw [← HN.out] at hnb2
          have HCH := Lib.hid hch
          by_cases hd1 : ch.toNat < 48
          · have hd1i : (ch.toNat : Int) < 48 := by omega
            clear hch
            go_wp2_with fail
            go_ret2
            exact RetNb.mk rfl ⟨⟨by omega, by omega⟩, fun d h1 h2 => by have h3 := (HD.out d h1 h2).1; have h5 : k = 0 := (by omega); subst h5; have h4 := (HD.out d h1 h2).2.2.2 ch HCH.out; omega⟩ (Below.refl _ _)
          · have hd1i : ¬ (ch.toNat : Int) < 48 := by omega
            by_cases hd2 : 57 < ch.toNat
            · have hd2i : (57 : Int) < (ch.toNat : Int) := by omega
              clear hch
              go_wp2_with fail
              go_ret2
              exact RetNb.mk rfl ⟨⟨by omega, by omega⟩, fun d h1 h2 => by have h3 := (HD.out d h1 h2).1; have h5 : k = 0 := (by omega); subst h5; have h4 := (HD.out d h1 h2).2.2.2 ch HCH.out; omega⟩ (Below.refl _ _)
            · have hd2i : ¬ (57 : Int) < (ch.toNat : Int) := by omega
              have HS2 := Lib.hid (nmTo_dig hch (by omega) (by omega))
              clear hch
              have hu := IntWalk.u8_in ((ch.toNat : Int) - 48) (by omega)
              have hu2 := IntWalk.i64_in ((ch.toNat : Int) - 48) (by omega)
              have hm := IntWalk.i64_in (10 * (n : Int)) (by omega)
              have hm2 := IntWalk.i64_in (10 * (n : Int) + ((ch.toNat : Int) - 48)) (by omega)
              go_wp2_with fail
              go_round
              case rel => exact ⟨k + 1, n * 10 + (ch.toNat - 48), by omega, by omega, by go_num, by go_num, by rw [HS2.out, HN.out]⟩
              case measure => simp [intOf]; omega
        · have hlti : ¬ (k : Int) < (l.length : Int) := by omega
          have HK : Hid (∀ d : Nat, d < 10 → l = [UInt8.ofNat (48 + d)] → k = 1) := Lib.hid fun d h1 h2 => by have := (HD.out d h1 h2).1; omega
          have HX : Hid (∀ d : Nat, d < 10 → l = [UInt8.ofNat (48 + d)] → (n : Int) = (d : Int)) := Lib.hid (fun d h1 h2 => by have := (HD.out d h1 h2).1; omega)
          obtain ⟨fs, hfs⟩ : ∃ fs, fs = bs (fmtI ((n : Int))) := ⟨_, rfl⟩
          have HCF : Hid (∀ w, Calls Try.prog 28 #[.int .i64 ((n : Int))] w fun e w' => e = .returned (.string fs) ∧ Below w.heap.size w w') := Lib.hid fun w => by rw [hfs]; exact impl_FormatInt ((n : Int)) w (by omega) (by omega)
          have HFS := Lib.hid hfs
          clear hfs
          have hq := eqS HFS.out HS.out
          by_cases hqq : fmtI ((n : Int)) = l
          · rw [decide_eq_true hqq] at hq
            clear hqq
            go_wp2_with (go_at_call 28; refine (HCF.out _).mono ?_; rintro e w5 ⟨rfl, b5⟩)
            go_ret2
            exact RetNb.mk rfl ⟨⟨by omega, by omega⟩, fun d h1 h2 => ⟨HX.out d h1 h2, rfl⟩⟩ (b5)
          · rw [decide_eq_false hqq] at hq
            have HQ := Lib.hid hqq
            clear hqq
            go_wp2_with (go_at_call 28; refine (HCF.out _).mono ?_; rintro e w5 ⟨rfl, b5⟩)
            go_ret2
            exact RetNb.mk rfl ⟨⟨by omega, by omega⟩, fun d h1 h2 => absurd (by rw [HX.out d h1 h2]; exact (HD.out d h1 h2).2.2.1) HQ.out⟩ (b5)
    · have hin' : inB (l.length : Int) 1 9 = false := Bool.eq_false_iff.2 hin
      have hlen : ¬ (1 + 0 ≤ l.length ∧ l.length ≤ 9 + 0) := by intro h; apply hin; simp [inB]; omega
      clear hin
      go_wp2_with (go_at_call 63; refine (within_any _ _ _ _).mono ?_; rintro e w9 ⟨rfl, rfl⟩; rw [hin'])
      go_ret2
      exact RetNb.mk rfl ⟨⟨by omega, by omega⟩, fun d h1 h2 => by have h3 := (HD.out d h1 h2).1; omega⟩ (Below.refl _ _)
  · have h0i : (0 : Int) < (l.length : Int) := by omega
    obtain ⟨c0, hc0⟩ : ∃ c0, l[0]? = some c0 := ⟨_, List.getElem?_eq_getElem (by omega)⟩
    have hix0 := ixS HS.out hc0
    rw [show ((0 : Nat) : Int) = 0 from rfl] at hix0
    have HC0 := Lib.hid hc0
    clear hc0
    by_cases h45 : (c0.toNat : Int) = 45
    · have hce : ((c0.toNat : Int) == 45) = true := by rw [h45]; rfl
      have H45 := Lib.hid h45
      clear h45
      have HAT : Hid (0 = nmTo l 1) := Lib.hid (by rw [nmTo_no HC0.out (by have := H45.out; omega)]; rfl)
      have hsub := IntWalk.i64_in ((l.length : Int) - 1) (by omega)
      by_cases hin : inB ((l.length : Int) - 1) 1 9 = true
      · have hlen : 1 + 1 ≤ l.length ∧ l.length ≤ 9 + 1 := by simp [inB] at hin; omega
        go_wp2_with (go_at_call 63; refine (within_any _ _ _ _).mono ?_; rintro e w9 ⟨rfl, rfl⟩; rw [hin])
        clear hin
        go_loop [5, 6] (fun n i => ∃ k n0 : Nat, 1 ≤ k ∧ k ≤ l.length ∧ i = .int .i64 k ∧ n = .int .i64 n0 ∧ n0 = nmTo l k) (fun _ i => l.length - (intOf i).toNat)
        case atStart => exact ⟨1, 0, Nat.le_refl _, by omega, rfl, rfl, HAT.out⟩
        case round =>
          obtain ⟨k, n, hak, hk, rfl, rfl, hn0⟩ := hrel
          have hnb := nmTo_bd l (show k ≤ 11 by omega)
          rw [← hn0] at hnb
          have HN := Lib.hid hn0
          clear hn0
          have hki0 : (0 : Int) ≤ (k : Int) := by omega
          by_cases hlt : k < l.length
          · have hlti : (k : Int) < (l.length : Int) := by omega
            obtain ⟨ch, hch⟩ : ∃ c, l[k]? = some c := ⟨_, List.getElem?_eq_getElem hlt⟩
            have hix := ixS HS.out hch
            have hnb2 := nmTo_bd2 l (show k < 11 by omega)
            rw [← HN.out] at hnb2
            have HCH := Lib.hid hch
            by_cases hd1 : ch.toNat < 48
            · have hd1i : (ch.toNat : Int) < 48 := by omega
              clear hch
              go_wp2_with fail
              go_ret2
              exact RetNb.mk rfl ⟨⟨by omega, by omega⟩, fun d h1 h2 => by have h3 := (HD.out d h1 h2).1; have h5 : k = 0 := (by omega); subst h5; have h4 := (HD.out d h1 h2).2.2.2 ch HCH.out; omega⟩ (Below.refl _ _)
            · have hd1i : ¬ (ch.toNat : Int) < 48 := by omega
              by_cases hd2 : 57 < ch.toNat
              · have hd2i : (57 : Int) < (ch.toNat : Int) := by omega
                clear hch
                go_wp2_with fail
                go_ret2
                exact RetNb.mk rfl ⟨⟨by omega, by omega⟩, fun d h1 h2 => by have h3 := (HD.out d h1 h2).1; have h5 : k = 0 := (by omega); subst h5; have h4 := (HD.out d h1 h2).2.2.2 ch HCH.out; omega⟩ (Below.refl _ _)
              · have hd2i : ¬ (57 : Int) < (ch.toNat : Int) := by omega
                have HS2 := Lib.hid (nmTo_dig hch (by omega) (by omega))
                clear hch
                have hu := IntWalk.u8_in ((ch.toNat : Int) - 48) (by omega)
                have hu2 := IntWalk.i64_in ((ch.toNat : Int) - 48) (by omega)
                have hm := IntWalk.i64_in (10 * (n : Int)) (by omega)
                have hm2 := IntWalk.i64_in (10 * (n : Int) + ((ch.toNat : Int) - 48)) (by omega)
                go_wp2_with fail
                go_round
                case rel => exact ⟨k + 1, n * 10 + (ch.toNat - 48), by omega, by omega, by go_num, by go_num, by rw [HS2.out, HN.out]⟩
                case measure => simp [intOf]; omega
          · have hlti : ¬ (k : Int) < (l.length : Int) := by omega
            have HK : Hid (∀ d : Nat, d < 10 → l = [UInt8.ofNat (48 + d)] → k = 1) := Lib.hid fun d h1 h2 => by have := (HD.out d h1 h2).1; omega
            have hng := IntWalk.i64_in (-(n : Int)) (by omega)
            have HX : Hid (∀ d : Nat, d < 10 → l = [UInt8.ofNat (48 + d)] → (-(n : Int)) = (d : Int)) := Lib.hid (fun d h1 h2 => by have h3 := (HD.out d h1 h2).2.2.2 c0 HC0.out; have h4 := H45.out; omega)
            obtain ⟨fs, hfs⟩ : ∃ fs, fs = bs (fmtI ((-(n : Int)))) := ⟨_, rfl⟩
            have HCF : Hid (∀ w, Calls Try.prog 28 #[.int .i64 ((-(n : Int)))] w fun e w' => e = .returned (.string fs) ∧ Below w.heap.size w w') := Lib.hid fun w => by rw [hfs]; exact impl_FormatInt ((-(n : Int))) w (by omega) (by omega)
            have HFS := Lib.hid hfs
            clear hfs
            have hq := eqS HFS.out HS.out
            by_cases hqq : fmtI ((-(n : Int))) = l
            · rw [decide_eq_true hqq] at hq
              clear hqq
              go_wp2_with (go_at_call 28; refine (HCF.out _).mono ?_; rintro e w5 ⟨rfl, b5⟩)
              go_ret2
              exact RetNb.mk rfl ⟨⟨by omega, by omega⟩, fun d h1 h2 => ⟨HX.out d h1 h2, rfl⟩⟩ (b5)
            · rw [decide_eq_false hqq] at hq
              have HQ := Lib.hid hqq
              clear hqq
              go_wp2_with (go_at_call 28; refine (HCF.out _).mono ?_; rintro e w5 ⟨rfl, b5⟩)
              go_ret2
              exact RetNb.mk rfl ⟨⟨by omega, by omega⟩, fun d h1 h2 => absurd (by rw [HX.out d h1 h2]; exact (HD.out d h1 h2).2.2.1) HQ.out⟩ (b5)
      · have hin' : inB ((l.length : Int) - 1) 1 9 = false := Bool.eq_false_iff.2 hin
        have hlen : ¬ (1 + 1 ≤ l.length ∧ l.length ≤ 9 + 1) := by intro h; apply hin; simp [inB]; omega
        clear hin
        go_wp2_with (go_at_call 63; refine (within_any _ _ _ _).mono ?_; rintro e w9 ⟨rfl, rfl⟩; rw [hin'])
        go_ret2
        exact RetNb.mk rfl ⟨⟨by omega, by omega⟩, fun d h1 h2 => by have h3 := (HD.out d h1 h2).1; have h4 := (HD.out d h1 h2).2.2.2 c0 HC0.out; have h5 := H45.out; omega⟩ (Below.refl _ _)
    · have hce : ((c0.toNat : Int) == 45) = false := by rw [beq_eq_false_iff_ne]; exact h45
      clear h45
      have HAT : Hid (0 = nmTo l 0) := Lib.hid rfl
      have hsub := IntWalk.i64_in ((l.length : Int) - 0) (by omega)
      by_cases hin : inB (l.length : Int) 1 9 = true
      · have hlen : 1 + 0 ≤ l.length ∧ l.length ≤ 9 + 0 := by simp [inB] at hin; omega
        go_wp2_with (go_at_call 63; refine (within_any _ _ _ _).mono ?_; rintro e w9 ⟨rfl, rfl⟩; rw [hin])
        clear hin
        go_loop [5, 6] (fun n i => ∃ k n0 : Nat, 0 ≤ k ∧ k ≤ l.length ∧ i = .int .i64 k ∧ n = .int .i64 n0 ∧ n0 = nmTo l k) (fun _ i => l.length - (intOf i).toNat)
        case atStart => exact ⟨0, 0, Nat.le_refl _, by omega, rfl, rfl, HAT.out⟩
        case round =>
          obtain ⟨k, n, hak, hk, rfl, rfl, hn0⟩ := hrel
          have hnb := nmTo_bd l (show k ≤ 11 by omega)
          rw [← hn0] at hnb
          have HN := Lib.hid hn0
          clear hn0
          have hki0 : (0 : Int) ≤ (k : Int) := by omega
          by_cases hlt : k < l.length
          · have hlti : (k : Int) < (l.length : Int) := by omega
            obtain ⟨ch, hch⟩ : ∃ c, l[k]? = some c := ⟨_, List.getElem?_eq_getElem hlt⟩
            have hix := ixS HS.out hch
            have hnb2 := nmTo_bd2 l (show k < 11 by omega)
            rw [← HN.out] at hnb2
            have HCH := Lib.hid hch
            by_cases hd1 : ch.toNat < 48
            · have hd1i : (ch.toNat : Int) < 48 := by omega
              clear hch
              go_wp2_with fail
              go_ret2
              exact RetNb.mk rfl ⟨⟨by omega, by omega⟩, fun d h1 h2 => by have h3 := (HD.out d h1 h2).1; have h5 : k = 0 := (by omega); subst h5; have h4 := (HD.out d h1 h2).2.2.2 ch HCH.out; omega⟩ (Below.refl _ _)
            · have hd1i : ¬ (ch.toNat : Int) < 48 := by omega
              by_cases hd2 : 57 < ch.toNat
              · have hd2i : (57 : Int) < (ch.toNat : Int) := by omega
                clear hch
                go_wp2_with fail
                go_ret2
                exact RetNb.mk rfl ⟨⟨by omega, by omega⟩, fun d h1 h2 => by have h3 := (HD.out d h1 h2).1; have h5 : k = 0 := (by omega); subst h5; have h4 := (HD.out d h1 h2).2.2.2 ch HCH.out; omega⟩ (Below.refl _ _)
              · have hd2i : ¬ (57 : Int) < (ch.toNat : Int) := by omega
                have HS2 := Lib.hid (nmTo_dig hch (by omega) (by omega))
                clear hch
                have hu := IntWalk.u8_in ((ch.toNat : Int) - 48) (by omega)
                have hu2 := IntWalk.i64_in ((ch.toNat : Int) - 48) (by omega)
                have hm := IntWalk.i64_in (10 * (n : Int)) (by omega)
                have hm2 := IntWalk.i64_in (10 * (n : Int) + ((ch.toNat : Int) - 48)) (by omega)
                go_wp2_with fail
                go_round
                case rel => exact ⟨k + 1, n * 10 + (ch.toNat - 48), by omega, by omega, by go_num, by go_num, by rw [HS2.out, HN.out]⟩
                case measure => simp [intOf]; omega
          · have hlti : ¬ (k : Int) < (l.length : Int) := by omega
            have HK : Hid (∀ d : Nat, d < 10 → l = [UInt8.ofNat (48 + d)] → k = 1) := Lib.hid fun d h1 h2 => by have := (HD.out d h1 h2).1; omega
            have HX : Hid (∀ d : Nat, d < 10 → l = [UInt8.ofNat (48 + d)] → (n : Int) = (d : Int)) := Lib.hid (fun d h1 h2 => by have h3 := HK.out d h1 h2; have h4 := HN.out; have h5 := (HD.out d h1 h2).2.1; rw [h3] at h4; omega)
            obtain ⟨fs, hfs⟩ : ∃ fs, fs = bs (fmtI ((n : Int))) := ⟨_, rfl⟩
            have HCF : Hid (∀ w, Calls Try.prog 28 #[.int .i64 ((n : Int))] w fun e w' => e = .returned (.string fs) ∧ Below w.heap.size w w') := Lib.hid fun w => by rw [hfs]; exact impl_FormatInt ((n : Int)) w (by omega) (by omega)
            have HFS := Lib.hid hfs
            clear hfs
            have hq := eqS HFS.out HS.out
            by_cases hqq : fmtI ((n : Int)) = l
            · rw [decide_eq_true hqq] at hq
              clear hqq
              go_wp2_with (go_at_call 28; refine (HCF.out _).mono ?_; rintro e w5 ⟨rfl, b5⟩)
              go_ret2
              exact RetNb.mk rfl ⟨⟨by omega, by omega⟩, fun d h1 h2 => ⟨HX.out d h1 h2, rfl⟩⟩ (b5)
            · rw [decide_eq_false hqq] at hq
              have HQ := Lib.hid hqq
              clear hqq
              go_wp2_with (go_at_call 28; refine (HCF.out _).mono ?_; rintro e w5 ⟨rfl, b5⟩)
              go_ret2
              exact RetNb.mk rfl ⟨⟨by omega, by omega⟩, fun d h1 h2 => absurd (by rw [HX.out d h1 h2]; exact (HD.out d h1 h2).2.2.1) HQ.out⟩ (b5)
      · have hin' : inB (l.length : Int) 1 9 = false := Bool.eq_false_iff.2 hin
        have hlen : ¬ (1 + 0 ≤ l.length ∧ l.length ≤ 9 + 0) := by intro h; apply hin; simp [inB]; omega
        clear hin
        go_wp2_with (go_at_call 63; refine (within_any _ _ _ _).mono ?_; rintro e w9 ⟨rfl, rfl⟩; rw [hin'])
        go_ret2
        exact RetNb.mk rfl ⟨⟨by omega, by omega⟩, fun d h1 h2 => by have h3 := (HD.out d h1 h2).1; omega⟩ (Below.refl _ _)

set_option maxHeartbeats 4000000 in
theorem spec_l2Number (W : World) (S : ByteArray) (l : List UInt8) (hS : S = bs l) (hn : l.length ≤ 1048576) :
    Calls Try.prog 40 #[.string S] W fun e w' => ∃ n, e = .returned (.int .i64 n) ∧ Nm l n ∧ Below W.heap.size W w' := by
  have HS := Lib.hid hS
  clear hS
  go_enter Try.func40, Try.ntmps40
  go_wp2_with fail
  refine (spec_ParseInt _ _ _ HS.out hn).mono ?_
  rintro e w1 ⟨n, b, rfl, hb, b1⟩
  have HB := Lib.hid hb
  clear hb
  cases b
  · go_wp2_with fail
    go_ret
    exact ⟨_, rfl, ⟨⟨by omega, by omega⟩, fun d h1 h2 => absurd (HB.out.2 d h1 h2).2 (by simp)⟩, b1⟩
  · go_wp2_with fail
    go_ret
    exact ⟨_, rfl, HB.out.nm, b1⟩
end Go.Proofs.Ytnjecekaenddiaa
