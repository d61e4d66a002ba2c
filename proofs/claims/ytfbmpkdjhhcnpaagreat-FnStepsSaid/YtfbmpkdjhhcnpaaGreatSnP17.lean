/- The points of a mask. No condition but sizes. -/
import Derived.Test.YtfbmpkdjhhcnpaaGreatSnP02
import Derived.Test.YtfbmpkdjhhcnpaaGreatSnP07
import Derived.Laws.BitsLemmas
namespace Go.Proofs.YtfbmpkdjhhcnpaaGreat
open Go.RowKit
set_option maxRecDepth 100000
set_option linter.unusedVariables false
set_option linter.unusedSimpArgs false
def bitB (m : Nat) (v : Nat) : Bool := m / 2 ^ v % 2 == 1
def maskL (m : Nat) : Nat → List Int
 | 0 => []
 | v + 1 => maskL m v ++ (if bitB m v = true then [(v : Int)] else [])
theorem and_one (n : Int) : bits .and .i64 n 1 = n % 2 := by
 have h127 : (BitVec.ofInt 64 1).toNat = 2 ^ 1 - 1 := by decide
 have key : (BitVec.ofInt 64 n &&& BitVec.ofInt 64 1).toNat = (n % ((2 ^ 64 : Nat) : Int)).toNat % 2 ^ 1 := by
  rw [BitVec.toNat_and, BitVec.toNat_ofInt, h127, Nat.and_two_pow_sub_one_eq_mod]
 show IntKind.i64.wrap ((BitVec.ofInt 64 n &&& BitVec.ofInt 64 1).toNat : Nat) = n % 2
 rw [key, IntKind.wrap_i64]
 omega
theorem bit_and (m k : Nat) : (bits .and .i64 ((m : Int) / 2 ^ k) 1 == 1) = bitB m k := by
 have h1 : ((m : Int) / 2 ^ k) = ((m / 2 ^ k : Nat) : Int) := by rw [Int.natCast_ediv, Int.natCast_pow]; rfl
 rw [h1, and_one]
 unfold bitB
 rw [Bool.eq_iff_iff, beq_iff_eq, beq_iff_eq]
 omega
theorem made_intsS (W : World) : OwnInts (W.alloc (.cells #[] 3)) W.heap.size (.slice (some ⟨W.heap.size, 0, none⟩) 0 0) [] := World.ownsRow_made W #[] 0 (Nat.le_refl _) (Nat.zero_le _) rfl
theorem maskL_len (m : Nat) : ∀ v, (maskL m v).length ≤ v
 | 0 => Nat.le_refl _
 | v + 1 => by
  have := maskL_len m v
  unfold maskL
  rw [List.length_append]
  split <;> simp <;> omega
set_option maxHeartbeats 2000000 in
theorem l3Set_at (W : World) (p m : Nat) (hp : p ≤ 8) (hm : m < 256) :
  Calls Tryz.prog 127 #[.int .i64 (p : Int), .int .i64 (m : Int)] W (RetInts W (maskL m p)) := by
 go_enter Tryz.func127, Tryz.ntmps127
 go_wp2_with fail
 go_loopw [5, 6] (fun o i w9 => ∃ k : Nat, k ≤ p ∧ i = .int .i64 k ∧ OwnInts w9 W.heap.size o (maskL m k) ∧ Below W.heap.size W w9) (fun _ i _ => p - (intOf i).toNat)
 case atStart => exact ⟨0, Nat.zero_le _, rfl, made_intsS W, belAl W _⟩
 case round =>
  obtain ⟨k, hk, rfl, ho, hb⟩ := hrel
  by_cases hlt : k < p
  ·have hki : (k : Int) < (p : Int) := by omega
   have HB := bit_and m k
   have hlk := maskL_len m k
   have HO := Lib.hid ho
   clear ho
   cases hd : bitB m k
   ·have HS := Lib.hid (show maskL m (k + 1) = maskL m k by conv => lhs; unfold maskL; rw [hd]; simp)
    rw [hd] at HB
    clear hd
    go_wp2_with fail
    go_roundw
    case rel => exact ⟨k + 1, by omega, by go_num, by rw [HS.out]; exact HO.out, hb⟩
    case measure => simp [intOf]; omega
   ·have HS := Lib.hid (show maskL m (k + 1) = maskL m k ++ [(k : Int)] by conv => lhs; unfold maskL; rw [hd]; simp)
    rw [hd] at HB
    clear hd
    have hbz := hb.size
    go_wp2_with (at_builtin; refine app1At rfl (.tmp 18) (.tmp 20) rfl rfl HO.out (k : Int) rfl (by omega) (by omega) ?_; intro v5 w5 h5 k5 a5)
    go_roundw
    case rel => exact ⟨k + 1, by omega, by go_num, by rw [HS.out]; exact h5, hb.trans (k5.below (by omega) fun j h1 h2 => by have := (HO.out.lt j h2.symm).1; omega)⟩
    case measure => simp [intOf]; omega
  ·obtain rfl : k = p := by omega
   go_wp2_with fail
   go_ret
   exact ⟨_, rfl, ho, hb⟩
end Go.Proofs.YtfbmpkdjhhcnpaaGreat

