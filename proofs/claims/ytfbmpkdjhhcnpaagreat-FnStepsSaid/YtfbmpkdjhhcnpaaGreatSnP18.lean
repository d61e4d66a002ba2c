/- The bars within a set of points (SpannedBars of the reference). No condition but sizes. -/
import Derived.Test.YtfbmpkdjhhcnpaaGreatSnP17
import Derived.Test.YtfbmpkdjhhcnpaaGreatSnP09
import Derived.Test.YtfbmpkdjhhcnpaaGreatSnP07
namespace Go.Proofs.YtfbmpkdjhhcnpaaGreat
open Go.RowKit
set_option maxRecDepth 100000
set_option linter.unusedVariables false
set_option linter.unusedSimpArgs false
def inS (l : List BarT) (s : List Int) (k : Nat) : Bool := match l[k]? with
 | some x => decide (x.1 ∈ s) && decide (x.2 ∈ s)
 | none => false
def spanL (l : List BarT) (s : List Int) : Nat → List Int
 | 0 => []
 | k + 1 => spanL l s k ++ (if inS l s k = true then [(k : Int)] else [])
theorem spanL_len (l : List BarT) (s : List Int) : ∀ k, (spanL l s k).length ≤ k
 | 0 => Nat.le_refl _
 | k + 1 => by
  have := spanL_len l s k
  unfold spanL
  rw [List.length_append]
  split <;> simp <;> omega
theorem spanL_no {l : List BarT} {s : List Int} {k : Nat} (h : inS l s k = false) : spanL l s (k + 1) = spanL l s k := by
 conv => lhs; unfold spanL; rw [h]
 simp
theorem spanL_yes {l : List BarT} {s : List Int} {k : Nat} (h : inS l s k = true) : spanL l s (k + 1) = spanL l s k ++ [(k : Int)] := by
 conv => lhs; unfold spanL; rw [h]
 simp
set_option maxHeartbeats 4000000 in
theorem specSpan_at (W : World) (p : Int) (a : Option Addr) (cap : Nat) (l : List BarT) (h : BarsAt W a l.length l) (hs : l.length ≤ 1048576) (va : Option Addr) (n vcap : Nat) (s : List Int) (hv : IntsAt W va n s) (hn : n ≤ 1048576) :
  Calls Tryz.prog 128 #[.agg #[.int .i64 p, .slice a l.length cap], .slice va n vcap] W (RetInts W (spanL l s l.length)) := by
 have hwd := @Wd.cells
 have HGr : Hid (IsGraph W (.agg #[.int .i64 p, .slice a l.length cap]) (p, l)) := Lib.hid ⟨a, cap, rfl, h⟩
 have H1 := Lib.hid h
 clear h
 have hsz : szGraph (p, l) ≤ 1048576 := hs
 have hsz2 : szGraph (p, l) ≤ 1099511627776 := Nat.le_trans hsz (by decide)
 have B : Below W.heap.size W (W.alloc (.cells #[.int .i64 p, .slice a l.length cap] 26)) := (Below.refl _ _).alloc (Nat.le_refl _) _
 have BG : Hid (BoxGr (W.alloc (.cells #[.int .i64 p, .slice a l.length cap] 26)) W.heap.size p a l.length cap) := Lib.hid (BoxGr.at rfl)
 have HV := Lib.hid hv
 clear hv
 have ba := belAl (W.alloc (.cells #[.int .i64 p, .slice a l.length cap] 26)) (.cells #[] 3)
 have HO0 : Hid (OwnInts ((W.alloc (.cells #[.int .i64 p, .slice a l.length cap] 26)).alloc (.cells #[] 3)) (W.heap.size + 1) (.slice (some ⟨W.heap.size + 1, 0, none⟩) 0 0) []) := Lib.hid (by have h9 := made_intsS (W.alloc (.cells #[.int .i64 p, .slice a l.length cap] 26)); simpa using h9)
 have hz : W.heap.size + 2 ≤ ((W.alloc (.cells #[.int .i64 p, .slice a l.length cap] 26)).alloc (.cells #[] 3)).heap.size := by simp
 replace B := B.step ba
 replace BG := Lib.hid (BG.out.below ba)
 clear ba
 go_enter Tryz.func128, Tryz.ntmps128
 go_wp2_with fail
 generalize ((W.alloc (.cells #[.int .i64 p, .slice a l.length cap] 26)).alloc (.cells #[] 3)) = u at *
 go_loopw [5, 6] (fun o i w9 => ∃ k : Nat, k ≤ l.length ∧ i = .int .i64 k ∧ OwnInts w9 (W.heap.size + 1) o (spanL l s k) ∧ Below W.heap.size W w9 ∧ BoxGr w9 W.heap.size p a l.length cap ∧ W.heap.size + 2 ≤ w9.heap.size) (fun _ i _ => l.length - (intOf i).toNat)
 case atStart => exact ⟨0, Nat.zero_le _, rfl, HO0.out, B, BG.out, hz⟩
 case round =>
  clear B BG HO0 hz
  obtain ⟨k, hk, rfl, ho, B, bg, hz⟩ := hrel
  have HO := Lib.hid ho
  have BG := Lib.hid bg
  clear ho bg
  have hlk := spanL_len l s k
  obtain ⟨zBG, fBG0, fBG1⟩ := BG.out
  by_cases hlt : k < l.length
  ·obtain ⟨bb, off, ⟨x1, x2⟩, rfl, hbl, hx, hc0, hc1⟩ := (H1.out.below B).2 k hlt
   dsimp only at hc0 hc1
   have hki : (k : Int) < (l.length : Int) := by omega
   have hk0 : (0 : Int) ≤ (k : Int) := by omega
   have C1 := Lib.hid (l2Has_at wr va n vcap s (HV.out.below B) (by omega) x1)
   have C2 := Lib.hid (l2Has_at wr va n vcap s (HV.out.below B) (by omega) x2)
   have HI : Hid (inS l s k = (decide (x1 ∈ s) && decide (x2 ∈ s))) := Lib.hid (by unfold inS; rw [hx])
   clear hx
   cases d1 : decide (x1 ∈ s)
   ·have HS := Lib.hid (spanL_no (show inS l s k = false by rw [HI.out, d1]; rfl))
    rw [d1] at C1
    clear d1
    go_wp2_with (go_at_call 73; refine C1.out.mono ?_; rintro e w1 ⟨rfl, rfl⟩)
    go_roundw
    case rel => exact ⟨k + 1, by omega, by go_num, by rw [HS.out]; exact HO.out, B, BG.out, hz⟩
    case measure => simp [intOf]; omega
   ·cases d2 : decide (x2 ∈ s)
    ·have HS := Lib.hid (spanL_no (show inS l s k = false by rw [HI.out, d1, d2]; rfl))
     rw [d1] at C1
     rw [d2] at C2
     clear d1 d2
     go_wp2_with fail
     refine C1.out.mono ?_
     rintro e w1 ⟨rfl, rfl⟩
     go_wp2_with fail
     refine C2.out.mono ?_
     rintro e w1 ⟨rfl, rfl⟩
     go_wp2_with fail
     go_roundw
     case rel => exact ⟨k + 1, by omega, by go_num, by rw [HS.out]; exact HO.out, B, BG.out, hz⟩
     case measure => simp [intOf]; omega
    ·have HS := Lib.hid (spanL_yes (show inS l s k = true by rw [HI.out, d1, d2]; rfl))
     rw [d1] at C1
     rw [d2] at C2
     clear d1 d2
     go_wp2_with fail
     refine C1.out.mono ?_
     rintro e w1 ⟨rfl, rfl⟩
     go_wp2_with fail
     refine C2.out.mono ?_
     rintro e w1 ⟨rfl, rfl⟩
     go_wp2_with (at_builtin; refine app1At rfl (.tmp 33) (.tmp 35) rfl rfl HO.out (k : Int) rfl (by omega) (by omega) ?_; intro v5 w5 h5 k5 a5)
     go_roundw
     case rel => exact ⟨k + 1, by omega, by go_num, by rw [HS.out]; exact h5, B.trans (k5.below (by omega) fun j h1 h2 => by have := (HO.out.lt j h2.symm).1; omega), BG.out.kept k5 (fun e => by have := (HO.out.lt _ e.symm).1; omega), Nat.le_trans hz k5.size⟩
     case measure => simp [intOf]; omega
  ·obtain rfl : k = l.length := by omega
   go_wp2_with fail
   go_ret
   exact ⟨_, rfl, ownsRow_base HO.out (by omega), B⟩
theorem mem_maskL (m : Nat) (x : Int) : ∀ p, x ∈ maskL m p ↔ (0 ≤ x ∧ x < p) ∧ bitB m x.toNat = true
 | 0 => by simp [maskL]; omega
 | v + 1 => by
  unfold maskL
  rw [List.mem_append, mem_maskL m x v]
  by_cases e : x = (v : Int)
  ·subst e
   cases hb : bitB m v <;> simp [hb] <;> omega
  ·have : x ∉ (if bitB m v = true then [(v : Int)] else []) := by split <;> simp [e]
   constructor
   ·rintro (h | h)
    ·exact ⟨⟨h.1.1, by omega⟩, h.2⟩
    ·exact absurd h this
   ·rintro ⟨h1, h2⟩
    exact .inl ⟨⟨h1.1, by omega⟩, h2⟩
def bothB (m : Nat) (x : BarT) : Bool := bitB m x.1.toNat && bitB m x.2.toNat
def spanM (l : List BarT) (m k : Nat) : Nat := ((l.take k).filter (bothB m)).length
theorem spanM_le (l : List BarT) (m k : Nat) : spanM l m k ≤ k := Nat.le_trans (List.length_filter_le _ _) (List.length_take_le _ _)
theorem spanM_succ {l : List BarT} {m k : Nat} {x : BarT} (h : l[k]? = some x) : spanM l m (k + 1) = spanM l m k + (if bothB m x = true then 1 else 0) := by
 unfold spanM
 rw [take_succ_of h, List.filter_append, List.length_append]
 cases hb : bothB m x <;> simp [hb]
theorem spanL_lenM {l : List BarT} {m p : Nat} (hr : ∀ x ∈ l, (0 ≤ x.1 ∧ x.1 < p) ∧ (0 ≤ x.2 ∧ x.2 < p)) : ∀ k, k ≤ l.length → (spanL l (maskL m p) k).length = spanM l m k
 | 0, _ => rfl
 | k + 1, hk => by
  have hx : l[k]? = some (l[k]'(by omega)) := List.getElem?_eq_getElem _
  have h1 := hr _ (List.mem_of_getElem? hx)
  have h2 : inS l (maskL m p) k = bothB m (l[k]'(by omega)) := by
   unfold inS bothB
   rw [hx]
   dsimp only
   congr 1
   ·rw [Bool.eq_iff_iff, decide_eq_true_eq, mem_maskL]
    exact ⟨fun h => h.2, fun h => ⟨h1.1, h⟩⟩
   ·rw [Bool.eq_iff_iff, decide_eq_true_eq, mem_maskL]
    exact ⟨fun h => h.2, fun h => ⟨h1.2, h⟩⟩
  rw [spanM_succ hx, ← spanL_lenM hr k (by omega)]
  cases hb : bothB m (l[k]'(by omega))
  ·rw [spanL_no (h2.trans hb)]; simp
  ·rw [spanL_yes (h2.trans hb), List.length_append]; simp
def sizeM (m p : Nat) : Nat := (maskL m p).length
theorem sizeM_le (m p : Nat) : sizeM m p ≤ p := maskL_len m p
theorem sizeM_succ (m v : Nat) : sizeM m (v + 1) = sizeM m v + (if bitB m v = true then 1 else 0) := by
 unfold sizeM
 conv => lhs; unfold maskL
 rw [List.length_append]
 cases hb : bitB m v <;> simp [hb]
def overAt (p : Nat) (l : List BarT) (k r : Int) (m : Nat) : Bool := decide (0 < spanM l m l.length) && decide (k * sizeM m p - r < spanM l m l.length)
theorem overAt_zero (p : Nat) (l : List BarT) (k r : Int) : overAt p l k r 0 = false := by
 have h0 : ∀ v, bitB 0 v = false := fun v => by unfold bitB; simp
 have h1 : ∀ x, bothB 0 x = false := fun x => by unfold bothB; rw [h0]; rfl
 unfold overAt spanM
 rw [List.filter_eq_nil_iff.2 fun x _ => by rw [h1]; simp]
 simp
def overB (p : Nat) (l : List BarT) (k r : Int) : Bool := (List.range (2 ^ p)).any (overAt p l k r)
theorem overB_yes {p : Nat} {l : List BarT} {k r : Int} {m : Nat} (hm : m < 2 ^ p) (h : overAt p l k r m = true) : overB p l k r = true := List.any_eq_true.2 ⟨m, List.mem_range.2 hm, h⟩
theorem overB_no {p : Nat} {l : List BarT} {k r : Int} (h : ∀ m, m < 2 ^ p → overAt p l k r m = false) : overB p l k r = false := by
 rw [Bool.eq_false_iff]
 intro hc
 obtain ⟨m, hm, h1⟩ := List.any_eq_true.1 hc
 rw [h m (List.mem_range.1 hm)] at h1
 exact Bool.noConfusion h1
def ovcB (g : GraphT) (k r : Int) : Bool := (isGraphB g && rangeB k r) && overB g.1.toNat g.2 k r
def sparseB (g : GraphT) (k r : Int) : Bool := (isGraphB g && rangeB k r) && !overB g.1.toNat g.2 k r
theorem isGraphB_ends {P : Nat} {l : List BarT} (h : isGraphB ((P : Int), l) = true) : ∀ x ∈ l, (0 ≤ x.1 ∧ x.1 < P) ∧ (0 ≤ x.2 ∧ x.2 < P) := by
 intro x hx
 obtain ⟨k, hk⟩ := List.getElem?_of_mem hx
 have := isGraphB_bar h hk
 omega
theorem and_bits (m a b : Nat) : bits .and .i64 (bits .and .i64 ((m : Int) / 2 ^ a) ((m : Int) / 2 ^ b)) 1 = (if (bitB m a && bitB m b) = true then 1 else 0) := by
 have e1 : ((m : Int) / 2 ^ a) = ((m / 2 ^ a : Nat) : Int) := by rw [Int.natCast_ediv, Int.natCast_pow]; rfl
 have e2 : ((m : Int) / 2 ^ b) = ((m / 2 ^ b : Nat) : Int) := by rw [Int.natCast_ediv, Int.natCast_pow]; rfl
 rw [and_one, e1, e2]
 have key : ∀ x y : Nat, bits .and .i64 (x : Int) (y : Int) % 2 = ((x % 2 * (y % 2) : Nat) : Int) := fun x y => by
  have k1 : (BitVec.ofInt 64 (x : Int) &&& BitVec.ofInt 64 (y : Int)).toNat % 2 = x % 2 * (y % 2) := by
   rw [BitVec.toNat_and, BitVec.ofInt_natCast, BitVec.ofInt_natCast, BitVec.toNat_ofNat, BitVec.toNat_ofNat]
   have h2 : ∀ u v : Nat, (u &&& v) % 2 = u % 2 * (v % 2) := fun u v => by
    have := Nat.and_mod_two_pow (a := u) (b := v) (n := 1)
    rw [show (2 : Nat) ^ 1 = 2 from rfl] at this
    rw [this]
    rcases Nat.mod_two_eq_zero_or_one u with h | h <;> rcases Nat.mod_two_eq_zero_or_one v with h' | h' <;> rw [h, h'] <;> rfl
   rw [h2]
   have : ∀ z : Nat, z % 2 ^ 64 % 2 = z % 2 := fun z => by omega
   rw [this, this]
  show IntKind.i64.wrap ((BitVec.ofInt 64 (x : Int) &&& BitVec.ofInt 64 (y : Int)).toNat : Nat) % 2 = _
  rw [← k1, IntKind.wrap_i64]
  omega
 rw [key]
 unfold bitB
 rcases Nat.mod_two_eq_zero_or_one (m / 2 ^ a) with h | h <;> rcases Nat.mod_two_eq_zero_or_one (m / 2 ^ b) with h' | h' <;> rw [h, h'] <;> rfl
theorem and_bit (m a : Nat) : bits .and .i64 ((m : Int) / 2 ^ a) 1 = (if bitB m a = true then 1 else 0) := by
 have h1 : ((m : Int) / 2 ^ a) = ((m / 2 ^ a : Nat) : Int) := by rw [Int.natCast_ediv, Int.natCast_pow]; rfl
 rw [h1, and_one]
 unfold bitB
 rcases Nat.mod_two_eq_zero_or_one (m / 2 ^ a) with h | h <;> rw [h] <;> simp <;> omega
end Go.Proofs.YtfbmpkdjhhcnpaaGreat

