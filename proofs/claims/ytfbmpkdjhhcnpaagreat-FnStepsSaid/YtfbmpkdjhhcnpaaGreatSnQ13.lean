/- AreSameSteps of the program and of the reference (written by samegen.py). -/
import Derived.Test.YtfbmpkdjhhcnpaaGreatSnP23
import Derived.Test.YtfbmpkdjhhcnpaaGreatSnP01
import Derived.Laws.Concat
import Derived.Laws.IdiomStrings
import Derived.BigRegion
namespace Go.Proofs.YtfbmpkdjhhcnpaaGreat
open Go.RowKit
set_option maxRecDepth 100000
set_option linter.unusedVariables false
set_option linter.unusedSimpArgs false

set_option maxHeartbeats 2000000 in
theorem specSs_any (a a' : Option Addr) (n cap n' cap' : Nat) (l l' : List StepT) (W : World) (h : StepsAt W a n l) (h' : StepsAt W a' n' l') (hn : n ≤ 1099511627776) :
  Calls Tryz.prog 28 #[.slice a n cap, .slice a' n' cap'] W fun e w' => e = .returned (.bool (decide (l = l'))) ∧ ∃ m, w' = W.drewN m := by
 have hgd := guardStep
 obtain ⟨hl, hc⟩ := h
 obtain ⟨hl', hc'⟩ := h'
 have HL := Lib.hid hl
 have HL' := Lib.hid hl'
 have HC := Lib.hid hc
 have HC' := Lib.hid hc'
 clear hl hc hl' hc'
 by_cases hnn : n = n'
 ·subst hnn
  go_enter Tryz.func28, Tryz.ntmps28
  go_wp2
  go_loopw [5] (fun i wr => ∃ k : Nat, k ≤ n ∧ i = .int .i64 k ∧ (∃ m, wr = W.drewN m) ∧ l.take k = l'.take k) (fun i _ => n - (intOf i).toNat)
  case atStart => exact ⟨0, Nat.zero_le _, rfl, ⟨0, rfl⟩, rfl⟩
  case round =>
   obtain ⟨k, hk, rfl, ⟨m, rfl⟩, hp⟩ := hrel
   have HP := Lib.hid hp
   clear hp
   by_cases hlt : k < n
   ·obtain ⟨b, off, ⟨x1, x2, x3, x4, x5⟩, rfl, hbl, hx, hc0, hc1, hc2, hc3, hc4⟩ := HC.out k hlt
    obtain ⟨b', off', ⟨y1, y2, y3, y4, y5⟩, rfl, hbl', hx', hd0, hd1, hd2, hd3, hd4⟩ := HC'.out k hlt
    have HX := Lib.hid hx
    have HX' := Lib.hid hx'
    clear hx hx'
    dsimp only at hc0 hc1 hc2 hc3 hc4 hd0 hd1 hd2 hd3 hd4
    by_cases hxx : (((x1, x2, x3, x4, x5) : StepT) = (y1, y2, y3, y4, y5))
    ·have HXX := Lib.hid hxx
     have hcmp := fun w => neqStep_t hxx w
     clear hxx
     go_wp2
     go_quiet (fail)
     go_wp2
     go_roundw
     case rel => exact ⟨k + 1, by omega, by go_num, (by first | exact ⟨_, rfl⟩ | exact ⟨_, World.drewN_drewN _ _ _⟩), by rw [take_succ_of HX.out, take_succ_of HX'.out, HP.out, HXX.out]⟩
     case measure => simp [intOf]; omega
    ·have HXX := Lib.hid hxx
     have hcmp := fun w => neqStep_f hxx w
     clear hxx
     go_wp2
     go_quiet (fail)
     go_wp2
     go_ret
     refine ⟨?_, by first | exact ⟨_, rfl⟩ | exact ⟨_, World.drewN_drewN _ _ _⟩⟩
     rw [show decide (l = l') = false from decide_eq_false fun e => HXX.out (Option.some.inj (by rw [← HX.out, ← HX'.out, e]))]
     try rfl
   ·obtain rfl : k = n := by omega
    go_wp2
    go_ret
    have h1 := HP.out
    rw [List.take_of_length_le (by have := HL.out; omega), List.take_of_length_le (by have := HL'.out; omega)] at h1
    exact ⟨by simp [h1], m, rfl⟩
 ·have hne : (n != n') = true := by simpa using hnn
  have hne2 : ((n : Int) != (n' : Int)) = true := by simp; omega
  go_enter Tryz.func28, Tryz.ntmps28
  go_wp2
  go_ret
  refine ⟨?_, 0, rfl⟩
  rw [show decide (l = l') = false from decide_eq_false fun e => hnn (by rw [← HL.out, ← HL'.out, e])]
  try rfl
set_option maxHeartbeats 2000000 in
theorem slEqSteps_any (a a' : Option Addr) (n cap n' cap' : Nat) (l l' : List StepT) (W : World) (h : StepsAt W a n l) (h' : StepsAt W a' n' l') (hn : n ≤ 1099511627776) :
  Calls Tryz.prog 103 #[.slice a n cap, .slice a' n' cap'] W fun e w' => e = .returned (.bool (decide (l = l'))) ∧ ∃ m, w' = W.drewN m := by
 have hgd := guardStep
 obtain ⟨hl, hc⟩ := h
 obtain ⟨hl', hc'⟩ := h'
 have HL := Lib.hid hl
 have HL' := Lib.hid hl'
 have HC := Lib.hid hc
 have HC' := Lib.hid hc'
 clear hl hc hl' hc'
 by_cases hnn : n = n'
 ·subst hnn
  go_enter Tryz.func103, Tryz.ntmps103
  go_wp2
  go_loopw [13] (fun i wr => ∃ k : Nat, k ≤ n ∧ i = .int .i64 k ∧ (∃ m, wr = W.drewN m) ∧ l.take k = l'.take k) (fun i _ => n - (intOf i).toNat)
  case atStart => exact ⟨0, Nat.zero_le _, rfl, ⟨0, rfl⟩, rfl⟩
  case round =>
   obtain ⟨k, hk, rfl, ⟨m, rfl⟩, hp⟩ := hrel
   have HP := Lib.hid hp
   clear hp
   by_cases hlt : k < n
   ·obtain ⟨b, off, ⟨x1, x2, x3, x4, x5⟩, rfl, hbl, hx, hc0, hc1, hc2, hc3, hc4⟩ := HC.out k hlt
    obtain ⟨b', off', ⟨y1, y2, y3, y4, y5⟩, rfl, hbl', hx', hd0, hd1, hd2, hd3, hd4⟩ := HC'.out k hlt
    have HX := Lib.hid hx
    have HX' := Lib.hid hx'
    clear hx hx'
    dsimp only at hc0 hc1 hc2 hc3 hc4 hd0 hd1 hd2 hd3 hd4
    by_cases hxx : (((x1, x2, x3, x4, x5) : StepT) = (y1, y2, y3, y4, y5))
    ·have HXX := Lib.hid hxx
     have hcmp := fun w => neqStep_t hxx w
     clear hxx
     go_wp2
     go_quiet (fail)
     go_wp2
     go_roundw
     case rel => exact ⟨k + 1, by omega, by go_num, (by first | exact ⟨_, rfl⟩ | exact ⟨_, World.drewN_drewN _ _ _⟩), by rw [take_succ_of HX.out, take_succ_of HX'.out, HP.out, HXX.out]⟩
     case measure => simp [intOf]; omega
    ·have HXX := Lib.hid hxx
     have hcmp := fun w => neqStep_f hxx w
     clear hxx
     go_wp2
     go_quiet (fail)
     go_wp2
     go_ret
     refine ⟨?_, by first | exact ⟨_, rfl⟩ | exact ⟨_, World.drewN_drewN _ _ _⟩⟩
     rw [show decide (l = l') = false from decide_eq_false fun e => HXX.out (Option.some.inj (by rw [← HX.out, ← HX'.out, e]))]
     try rfl
   ·obtain rfl : k = n := by omega
    go_wp2
    go_ret
    have h1 := HP.out
    rw [List.take_of_length_le (by have := HL.out; omega), List.take_of_length_le (by have := HL'.out; omega)] at h1
    exact ⟨by simp [h1], m, rfl⟩
 ·have hne : (n != n') = true := by simpa using hnn
  have hne2 : ((n : Int) != (n' : Int)) = true := by simp; omega
  go_enter Tryz.func103, Tryz.ntmps103
  go_wp2
  go_ret
  refine ⟨?_, 0, rfl⟩
  rw [show decide (l = l') = false from decide_eq_false fun e => hnn (by rw [← HL.out, ← HL'.out, e])]
  try rfl

theorem slEqSteps_is (W : World) (v v' : Value) (l l' : List StepT) (h : IsSteps W v l) (h' : IsSteps W v' l') (hn : l.length ≤ 1099511627776) : Calls Tryz.prog 103 #[v, v'] W fun e w' => e = .returned (.bool (decide (l = l'))) ∧ ∃ m, w' = W.drewN m := by
 obtain ⟨a, cap, rfl, hi⟩ := h
 obtain ⟨a', cap', rfl, hi'⟩ := h'
 exact slEqSteps_any _ _ _ _ _ _ _ _ _ hi hi' hn

theorem spec_AreSameSteps (W : World) (v : Value) (l : List StepT) (h : IsSteps W v l) (v' : Value) (l' : List StepT) (h' : IsSteps W v' l') (hn : l.length ≤ 1048576) (hn' : l'.length ≤ 1048576) : Calls Tryz.prog 28 #[v, v'] W fun e w' => e = .returned (.bool (decide (l = l'))) ∧ Below W.heap.size W w' := by
 obtain ⟨a, cap, rfl, hi⟩ := h
 obtain ⟨a', cap', rfl, hi'⟩ := h'
 exact (specSs_any _ _ _ _ _ _ _ _ _ hi hi' (by omega)).mono fun _ _ ⟨he, m, hw⟩ => ⟨he, by rw [hw]; exact below_drewN (Below.refl _ _) _⟩
set_option maxHeartbeats 1000000 in
theorem impl_AreSameSteps (W : World) (v : Value) (l : List StepT) (h : IsSteps W v l) (v' : Value) (l' : List StepT) (h' : IsSteps W v' l') (hn : l.length ≤ 1048576) (hn' : l'.length ≤ 1048576) : Calls Tryz.prog 44 #[v, v'] W fun e w' => e = .returned (.bool (decide (l = l'))) ∧ Below W.heap.size W w' := by
 have H := Lib.hid h
 have H' := Lib.hid h'
 clear h h'
 go_enter Tryz.func44, Tryz.ntmps44
 go_wp2_with fail
 refine (slEqSteps_is _ _ _ _ _ H.out H'.out (by omega)).mono ?_
 rintro e w' ⟨rfl, m, rfl⟩
 go_wp2_with fail
 go_ret
 exact ⟨rfl, below_drewN (Below.refl _ _) _⟩

theorem infoByte : (Tryz.prog.info? 5).map (fun i => (i.zero, i.size, i.bytes)) = some (some (.int .u8 0), 1, 1) := by kernel_rfl

def bs (l : List UInt8) : ByteArray := ⟨l.toArray⟩
theorem bs_data (l : List UInt8) : (bs l).data.toList = l := rfl
theorem bs_size (l : List UInt8) : (bs l).size = l.length := by show l.toArray.size = _; simp
theorem bs_add (l r : List UInt8) : bs l ++ bs r = bs (l ++ r) := ByteArray.mk_append_mk l r
theorem addS {l r : List UInt8} (h : l.length + r.length ≤ 9223372036854775807) : ∀ w, (Op.stringOp .add (bs l) (bs r)).run Tryz.prog w = .ok (.string (bs (l ++ r))) w := fun w => by
 rw [run_string_add_sum w _ _ (by rw [bs_size, bs_size]; exact h), bs_add]

def dg (n : Nat) : List UInt8 := if h : n = 0 then [] else UInt8.ofNat (48 + n % 10) :: dg (n / 10)
termination_by n
theorem dg_zero : dg 0 = [] := by rw [dg]; rfl
theorem dg_pos {n : Nat} (h : n ≠ 0) : dg n = UInt8.ofNat (48 + n % 10) :: dg (n / 10) := by rw [dg, dif_neg h]
theorem dg_len : ∀ (k n : Nat), n < 10 ^ k → (dg n).length ≤ k
 | 0, n, h => by
  have : n = 0 := by simpa using h
  rw [this, dg_zero]; simp
 | k + 1, n, h => by
  by_cases h0 : n = 0
  ·rw [h0, dg_zero]; simp
  ·rw [dg_pos h0]
   have := dg_len k (n / 10) (by rw [Nat.pow_succ] at h; omega)
   simp; omega
def fmtI (n : Int) : List UInt8 := if n = 0 then [48] else if n < 0 then 45 :: (dg n.natAbs).reverse else (dg n.natAbs).reverse
theorem fmtI_len {n : Int} (h1 : -9223372036854775808 ≤ n) (h2 : n ≤ 9223372036854775807) : (fmtI n).length ≤ 21 := by
 have := dg_len 20 n.natAbs (by omega)
 unfold fmtI
 split
 ·simp
 ·split
  ·simp; omega
  ·simp; omega
theorem chr_nat {n : Nat} : (UInt8.ofNat (48 + n % 10)).toNat = 48 + n % 10 := by
 rw [UInt8.toNat_ofNat']; omega

def byteC (b : UInt8) : Value := .int .u8 (b.toNat : Int)
def OwnB (W : World) (base : Nat) (v : Value) (l : List UInt8) : Prop := W.ownsRow base 5 1 v l.length (l.map byteC)
theorem OwnB.made (W : World) (base : Nat) (h : base ≤ W.heap.size) : OwnB (W.alloc (.cells #[] 5)) base (.slice (some ⟨W.heap.size, 0, none⟩) 0 0) [] :=
 World.ownsRow_made W #[] 0 h (Nat.zero_le _) rfl
theorem OwnB.below {W W' : World} {base : Nat} {v : Value} {l : List UInt8} (h : OwnB W base v l) (hb : Below W.heap.size W W') : OwnB W' base v l := Below.ownsRow hb h
theorem appB {w : World} {ops : Array Oper} {rest : List Oper} {o : Oper} {a : Act} {Q : Exit → Act → World → Prop} (hg : o.guard = none) (s x : Operand)
  (ho : o.op = .call { callee := .builtin .append, args := #[s, x], argTypes := #[22, 22] }) {base : Nat} {v : Value} {l : List UInt8} (hs : a.eval s = v) (hown : OwnB w base v l) (c : UInt8) (y : Value) (hy : y = byteC c)
  (hx : a.eval x = .slice (some ⟨w.heap.size, 0, none⟩) 1 1) (hl : l.length < 17592186044416) (hbase : base ≤ w.heap.size)
  (hK : ∀ v' w', OwnB w' base v' (l ++ [c]) → Kept (fun k => some k = v.ownBlock) w w' → wpList Tryz.prog ops Q rest (a.put o.dst v') w') :
  wpList Tryz.prog ops Q (o :: rest) a (w.alloc (.cells #[y] 5)) := by
 subst hy
 obtain ⟨i0, hi, hz0, hz1, hz2⟩ := info_parts infoByte
 refine wpList_append_own _ hg s x 22 ho base 5 i0 (.int .u8 0) 1 1 Tryz.underlying22 hi hz0 hz1 hz2 rfl (by decide) v l.length (l.map byteC) hs (World.ownsRow.alloc hown _) ⟨w.heap.size, 0, none⟩ 1 1 [byteC c] hx rfl ?_ ?_ ?_ ?_ ?_ ?_
 ·intro j u hu
  have hj : j = 0 := by have := lt_of_getElem? hu; simp at this; omega
  subst hj
  simp at hu
  subst hu
  simp [Addr.add, World.cell?_alloc_new]
 ·intro u hu
  simp at hu
  subst hu
  rfl
 ·unfold maxLen; omega
 ·omega
 ·simp; omega
 ·intro v' w' h1 h2 _
  refine hK v' w' (by unfold OwnB; simpa using h1) ?_
  exact (Kept.of_below ((Below.refl _ _).alloc (Nat.le_refl _) _)).trans ⟨h2.os, h2.tape, h2.output, h2.size, fun k hk hs => h2.block k hk hs⟩
theorem OwnB.form {W : World} {base : Nat} {v : Value} {l : List UInt8} (h : OwnB W base v l) (hn : 0 < l.length) : ∃ g cap, v = .slice (some ⟨g, 0, none⟩) l.length cap ∧ g < W.heap.size ∧ base ≤ g ∧ (∀ j c, l[j]? = some c → W.cell? ⟨g, j, none⟩ = some (byteC c)) ∧ ∀ j, W.frozen? ⟨g, j, none⟩ = false := by
 have h2 := h
 rcases h.2 with ⟨rfl, h0⟩ | ⟨g, cap, cur, rfl, hb, hg, _⟩
 ·omega
 ·refine ⟨g, cap, rfl, (Array.getElem?_eq_some_iff.1 hg).1, hb, fun j c hj => ?_, fun j => World.ownsRow.frozenAt h2 j⟩
  have hjl := lt_of_getElem? hj
  rw [World.ownsRow.cellAt h2 j (by omega)]
  simp [hj]
theorem OwnB.set {W : World} {base g cap : Nat} {l : List UInt8} (h : OwnB W base (.slice (some ⟨g, 0, none⟩) l.length cap) l) (j : Nat) (c : UInt8) : OwnB (W.setCell ⟨g, j, none⟩ (byteC c)) base (.slice (some ⟨g, 0, none⟩) l.length cap) (l.set j c) := by
 have h2 := World.ownsRow.stored h j (byteC c)
 unfold OwnB
 rw [List.length_set, List.map_set]
 exact h2.1
theorem backS {w : World} {g cap : Nat} {l : List UInt8} (hc : ∀ j c, l[j]? = some c → w.cell? ⟨g, j, none⟩ = some (byteC c)) : (convert 22 9 (.slice (some ⟨g, 0, none⟩) l.length cap)).run Tryz.prog w = .ok (.string (bs l)) w :=
 run_convert_bytes_back w _ _ 5 ⟨g, 0, none⟩ cap l Tryz.underlying22 Tryz.underlying5 Tryz.underlying9 fun j hj => by
  rw [Addr.add_lit, Nat.zero_add]
  exact hc j _ (List.getElem?_eq_getElem hj)

theorem tmod_neg (m : Nat) : Int.tmod (-(m : Int)) 10 = -((m % 10 : Nat) : Int) := by
 rw [Int.neg_tmod]; rfl
theorem tdiv_neg (m : Nat) : Int.tdiv (-(m : Int)) 10 = -((m / 10 : Nat) : Int) := by
 rw [Int.neg_tdiv]; rfl
theorem tmod_pos (m : Nat) : Int.tmod (m : Int) 10 = ((m % 10 : Nat) : Int) := rfl
theorem tdiv_pos (m : Nat) : Int.tdiv (m : Int) 10 = ((m / 10 : Nat) : Int) := rfl
theorem dg_step {N m : Nat} {o : List UInt8} (h : o ++ dg m = dg N) (hm : m ≠ 0) : (o ++ [UInt8.ofNat (48 + m % 10)]) ++ dg (m / 10) = dg N := by
 rw [← h, dg_pos hm]; simp


set_option maxHeartbeats 4000000 in
theorem specFi_neg (N : Nat) (W : World) (hN0 : N ≠ 0) (hN : N ≤ 9223372036854775808) (hr1 : -9223372036854775808 ≤ -(N : Int)) (hr2 : -(N : Int) ≤ 9223372036854775807) : Calls Tryz.prog 84 #[.int .i64 (-(N : Int))] W fun e w' => e = .returned (.string (bs (fmtI (-(N : Int))))) ∧ Below W.heap.size W w' := by
 have HE : Hid (fmtI (-(N : Int)) = 45 :: (dg N).reverse) := Lib.hid (by
  unfold fmtI
  rw [if_neg (by omega)]
  first | (rw [if_pos (by omega)]; congr 3; omega) | (rw [if_neg (by omega)]; congr 2))
 have HLN : Hid ((dg N).length ≤ 20) := Lib.hid (dg_len 20 N (by omega))
 have hnz : (-(N : Int) == (0 : Int)) = false := by rw [beq_eq_false_iff_ne]; omega
 have hN1 : 0 < N := by omega
 have hN2 : decide (0 < N) = true := decide_eq_true hN1
 have HBE : Hid (bs [] = { data := #[] }) := Lib.hid rfl
 go_enter Tryz.func84, Tryz.ntmps84
 go_wp2_with fail
 go_loopw [0, 3] (fun nv o w9 => ∃ (m : Nat) (d : List UInt8), m ≤ N ∧ nv = .int .i64 (-(m : Int)) ∧ o = .string (bs d.reverse) ∧ d ++ dg m = dg N ∧ Below W.heap.size W w9) (fun nv _ _ => (intOf nv).natAbs)
 case atStart => exact ⟨N, [], Nat.le_refl _, rfl, rfl, rfl, Below.refl _ _⟩
 case round =>
  obtain ⟨m, d, hm, rfl, rfl, hd, hb⟩ := hrel
  have hdl : d.length ≤ 20 := by have h1 := HLN.out; rw [← hd, List.length_append] at h1; omega
  have HD := Lib.hid hd
  clear hd
  by_cases hm0 : m = 0
  ·subst hm0
   have HF : Hid (d = dg N) := Lib.hid (by have := HD.out; rwa [dg_zero, List.append_nil] at this)
   have had : ∀ w, (Op.stringOp .add { data := #[45] } (bs d.reverse)).run Tryz.prog w = .ok (.string (bs (45 :: d.reverse))) w := addS (l := [45]) (r := d.reverse) (by simp; omega)
   go_wp2_with fail
   go_ret
   exact ⟨by rw [HE.out, ← HF.out]; rfl, hb⟩
  ·have HS := Lib.hid (dg_step HD.out hm0)
   have tm : Int.tmod (-(m : Int)) 10 = _ := tmod_neg m
   have td : Int.tdiv (-(m : Int)) 10 = _ := tdiv_neg m
   have hcn : (UInt8.ofNat (48 + m % 10)).toNat = 48 + m % 10 := chr_nat
   have hr10 : m % 10 < 10 := Nat.mod_lt _ (by decide)
   have ht : m / 10 < m := Nat.div_lt_self (by omega) (by decide)
   generalize UInt8.ofNat (48 + m % 10) = ch at *
   generalize m % 10 = r at *
   generalize m / 10 = t at *
   have hmz : (-(m : Int) == (0 : Int)) = false := by rw [beq_eq_false_iff_ne]; omega
   have hmz2 : (-(m : Int) != (0 : Int)) = true := by rw [bne_iff_ne]; omega
   have HCN := Lib.hid hcn
   have hbk : (convert 22 9 (.slice (some ⟨wr.heap.size, 0, none⟩) 1 1)).run Tryz.prog (wr.alloc (.cells #[.int .u8 (48 + (r : Int))] 5)) = .ok (.string (bs [ch])) (wr.alloc (.cells #[.int .u8 (48 + (r : Int))] 5)) := by
    refine backS (l := [ch]) (cap := 1) fun j c hj => ?_
    have hj0 : j = 0 := by have := lt_of_getElem? hj; simp at this; omega
    subst hj0
    simp at hj
    subst hj
    simp [World.cell?_alloc_new, byteC, HCN.out]
   have had := addS (l := [ch]) (r := d.reverse) (by simp; omega)
   have hba : Below wr.heap.size wr (wr.alloc (.cells #[.int .u8 (48 + (r : Int))] 5)) := (Below.refl _ _).alloc (Nat.le_refl _) _
   have HBA := Lib.hid hba
   clear hba hcn
   by_cases hr0 : r = 0
   ·subst hr0
    rw [show (48 + ((0 : Nat) : Int)) = 48 from rfl] at hbk HBA
    go_wp2_with fail
    go_roundw
    case rel => exact ⟨t, d ++ [ch], by omega, rfl, by simp, HS.out, hb.trans (HBA.out.mono hb.size)⟩
    case measure => simp [intOf]; omega
   ·have hrn : decide (-(r : Int) < 0) = true := decide_eq_true (by omega)
    go_wp2_with fail
    go_roundw
    case rel => exact ⟨t, d ++ [ch], by omega, rfl, by simp, HS.out, hb.trans (HBA.out.mono hb.size)⟩
    case measure => simp [intOf]; omega

set_option maxHeartbeats 4000000 in
theorem specFi_pos (N : Nat) (W : World) (hN0 : N ≠ 0) (hN : N ≤ 9223372036854775808) (hr1 : -9223372036854775808 ≤ (N : Int)) (hr2 : (N : Int) ≤ 9223372036854775807) : Calls Tryz.prog 84 #[.int .i64 ((N : Int))] W fun e w' => e = .returned (.string (bs (fmtI ((N : Int))))) ∧ Below W.heap.size W w' := by
 have HE : Hid (fmtI ((N : Int)) =  (dg N).reverse) := Lib.hid (by
  unfold fmtI
  rw [if_neg (by omega)]
  first | (rw [if_pos (by omega)]; congr 3; omega) | (rw [if_neg (by omega)]; congr 2))
 have HLN : Hid ((dg N).length ≤ 20) := Lib.hid (dg_len 20 N (by omega))
 have hnz : ((N : Int) == (0 : Int)) = false := by rw [beq_eq_false_iff_ne]; omega
 have hN1 : 0 < N := by omega
 have hN2 : decide (0 < N) = true := decide_eq_true hN1
 have HBE : Hid (bs [] = { data := #[] }) := Lib.hid rfl
 go_enter Tryz.func84, Tryz.ntmps84
 go_wp2_with fail
 go_loopw [0, 3] (fun nv o w9 => ∃ (m : Nat) (d : List UInt8), m ≤ N ∧ nv = .int .i64 ((m : Int)) ∧ o = .string (bs d.reverse) ∧ d ++ dg m = dg N ∧ Below W.heap.size W w9) (fun nv _ _ => (intOf nv).natAbs)
 case atStart => exact ⟨N, [], Nat.le_refl _, rfl, rfl, rfl, Below.refl _ _⟩
 case round =>
  obtain ⟨m, d, hm, rfl, rfl, hd, hb⟩ := hrel
  have hdl : d.length ≤ 20 := by have h1 := HLN.out; rw [← hd, List.length_append] at h1; omega
  have HD := Lib.hid hd
  clear hd
  by_cases hm0 : m = 0
  ·subst hm0
   have HF : Hid (d = dg N) := Lib.hid (by have := HD.out; rwa [dg_zero, List.append_nil] at this)
   skip
   go_wp2_with fail
   go_ret
   exact ⟨by rw [HE.out, ← HF.out]; rfl, hb⟩
  ·have HS := Lib.hid (dg_step HD.out hm0)
   have tm : Int.tmod ((m : Int)) 10 = _ := tmod_pos m
   have td : Int.tdiv ((m : Int)) 10 = _ := tdiv_pos m
   have hcn : (UInt8.ofNat (48 + m % 10)).toNat = 48 + m % 10 := chr_nat
   have hr10 : m % 10 < 10 := Nat.mod_lt _ (by decide)
   have ht : m / 10 < m := Nat.div_lt_self (by omega) (by decide)
   generalize UInt8.ofNat (48 + m % 10) = ch at *
   generalize m % 10 = r at *
   generalize m / 10 = t at *
   have hmz : ((m : Int) == (0 : Int)) = false := by rw [beq_eq_false_iff_ne]; omega
   have hmz2 : ((m : Int) != (0 : Int)) = true := by rw [bne_iff_ne]; omega
   have HCN := Lib.hid hcn
   have hbk : (convert 22 9 (.slice (some ⟨wr.heap.size, 0, none⟩) 1 1)).run Tryz.prog (wr.alloc (.cells #[.int .u8 (48 + (r : Int))] 5)) = .ok (.string (bs [ch])) (wr.alloc (.cells #[.int .u8 (48 + (r : Int))] 5)) := by
    refine backS (l := [ch]) (cap := 1) fun j c hj => ?_
    have hj0 : j = 0 := by have := lt_of_getElem? hj; simp at this; omega
    subst hj0
    simp at hj
    subst hj
    simp [World.cell?_alloc_new, byteC, HCN.out]
   have had := addS (l := [ch]) (r := d.reverse) (by simp; omega)
   have hba : Below wr.heap.size wr (wr.alloc (.cells #[.int .u8 (48 + (r : Int))] 5)) := (Below.refl _ _).alloc (Nat.le_refl _) _
   have HBA := Lib.hid hba
   clear hba hcn
   by_cases hr0 : r = 0
   ·subst hr0
    rw [show (48 + ((0 : Nat) : Int)) = 48 from rfl] at hbk HBA
    go_wp2_with fail
    go_roundw
    case rel => exact ⟨t, d ++ [ch], by omega, rfl, by simp, HS.out, hb.trans (HBA.out.mono hb.size)⟩
    case measure => simp [intOf]; omega
   ·have hrn : decide ((r : Int) < 0) = false := decide_eq_false (by omega)
    go_wp2_with fail
    go_roundw
    case rel => exact ⟨t, d ++ [ch], by omega, rfl, by simp, HS.out, hb.trans (HBA.out.mono hb.size)⟩
    case measure => simp [intOf]; omega

theorem spec_FormatInt (n : Int) (W : World) (h1 : -9223372036854775808 ≤ n) (h2 : n ≤ 9223372036854775807) : Calls Tryz.prog 84 #[.int .i64 n] W fun e w' => e = .returned (.string (bs (fmtI n))) ∧ Below W.heap.size W w' := by
 by_cases h0 : n = 0
 ·subst h0
  go_enter Tryz.func84, Tryz.ntmps84
  go_wp2_with fail
  go_ret
  exact ⟨rfl, Below.refl _ _⟩
 ·rcases Int.lt_or_le n 0 with h | h
  ·obtain ⟨N, hN⟩ : ∃ N : Nat, n = -(N : Int) := ⟨n.natAbs, by omega⟩
   subst hN
   exact specFi_neg N W (by omega) (by omega) h1 h2
  ·obtain ⟨N, rfl⟩ := Int.eq_ofNat_of_zero_le h
   exact specFi_pos N W (by omega) (by omega) h1 h2

def revTo (z : List UInt8) (i j : Nat) : List UInt8 := (List.range z.length).map fun k => if k < i ∨ j < k then z[z.length - 1 - k]?.getD 0 else z[k]?.getD 0
theorem revTo_length (z : List UInt8) (i j : Nat) : (revTo z i j).length = z.length := by simp [revTo]
theorem revTo_start (z : List UInt8) {j : Nat} (h : 0 + j + 1 = z.length) : revTo z 0 j = z := by
 refine List.ext_getElem (by simp [revTo]) fun k h1 h2 => ?_
 simp only [revTo, List.getElem_map, List.getElem_range]
 rw [if_neg (by omega), List.getElem?_eq_getElem h2]; rfl
theorem revTo_get {z : List UInt8} {i j k : Nat} (h1 : i ≤ k) (h2 : k ≤ j) (hk : k < z.length) : (revTo z i j)[k]? = some z[k] := by
 simp only [revTo, List.getElem?_map, List.getElem?_range hk, Option.map_some]
 rw [if_neg (by omega), List.getElem?_eq_getElem hk]; rfl
theorem revTo_step {z : List UInt8} {i j : Nat} (h : i + j + 1 = z.length) (hij : i < j) : ((revTo z i j).set i z[j]).set j z[i] = revTo z (i + 1) (j - 1) := by
 refine List.ext_getElem (by simp [revTo]) fun k h1 h2 => ?_
 have hk : k < z.length := by simpa [revTo] using h2
 simp only [List.getElem_set, revTo, List.getElem_map, List.getElem_range]
 by_cases e1 : j = k
 ·subst e1
  rw [if_pos rfl, if_pos (by omega), show z.length - 1 - j = i by omega, List.getElem?_eq_getElem (by omega)]; rfl
 ·rw [if_neg e1]
  by_cases e2 : i = k
  ·subst e2
   rw [if_pos rfl, if_pos (by omega), show z.length - 1 - i = j by omega, List.getElem?_eq_getElem (by omega)]; rfl
  ·rw [if_neg e2]
   by_cases e3 : k < i ∨ j < k
   ·rw [if_pos e3, if_pos (by omega)]
   ·rw [if_neg e3, if_neg (by omega)]
theorem revTo_done {z : List UInt8} {i j : Nat} (h : i + j + 1 = z.length) (hij : ¬ i < j) (hij2 : i ≤ j + 1) : revTo z i j = z.reverse := by
 refine List.ext_getElem (by simp [revTo]) fun k h1 h2 => ?_
 have hk : k < z.length := by simpa [revTo] using h1
 simp only [revTo, List.getElem_map, List.getElem_range, List.getElem_reverse]
 by_cases e3 : k < i ∨ j < k
 ·rw [if_pos e3, List.getElem?_eq_getElem (by omega)]; rfl
 ·rw [if_neg e3, List.getElem?_eq_getElem hk]
  have : z.length - 1 - k = k := by omega
  simp only [this]; rfl


set_option maxHeartbeats 8000000 in
theorem implFi_neg (N : Nat) (W : World) (hN0 : N ≠ 0) (hN : N ≤ 9223372036854775808) (hr1 : -9223372036854775808 ≤ -(N : Int)) (hr2 : -(N : Int) ≤ 9223372036854775807) : Calls Tryz.prog 82 #[.int .i64 (-(N : Int))] W fun e w' => e = .returned (.string (bs (fmtI (-(N : Int))))) ∧ Below W.heap.size W w' := by
 have HE : Hid (fmtI (-(N : Int)) = (dg N ++ [45]).reverse) := Lib.hid (by
  unfold fmtI
  rw [if_neg (by omega)]
  first | (rw [if_pos (by omega), List.reverse_append]; show 45 :: _ = 45 :: _; congr 3; omega) | (rw [if_neg (by omega), List.append_nil]; congr 2))
 have HLN : Hid ((dg N).length ≤ 20) := Lib.hid (dg_len 20 N (by omega))
 have HN1 : Hid (0 < (dg N).length) := Lib.hid (by rw [dg_pos hN0]; simp)
 have hnz : (-(N : Int) == (0 : Int)) = false := by rw [beq_eq_false_iff_ne]; omega
 have hN1 : 0 < N := by omega
 have hN2 : decide (0 < N) = true := decide_eq_true hN1
 skip
 have ho0 := OwnB.made W W.heap.size (Nat.le_refl _)
 have hbo : Below W.heap.size W (W.alloc (.cells #[] 5)) := (Below.refl _ _).alloc (Nat.le_refl _) _
 go_enter Tryz.func82, Tryz.ntmps82
 go_wp2_with fail
 generalize W.alloc (.cells #[] 5) = w0 at *
 go_loopw [3, 4] (fun o nv w9 => ∃ (m : Nat) (d : List UInt8), m ≤ N ∧ nv = .int .i64 (-(m : Int)) ∧ OwnB w9 W.heap.size o d ∧ d ++ dg m = dg N ∧ Below W.heap.size W w9) (fun _ nv _ => (intOf nv).natAbs)
 case atStart => exact ⟨N, [], Nat.le_refl _, rfl, ho0, rfl, hbo⟩
 case round =>
  obtain ⟨m, d, hm, rfl, ho, hd, hb⟩ := hrel
  have hbz := hb.size
  have HO := Lib.hid ho
  have hdl : d.length ≤ 20 := by have h1 := HLN.out; rw [← hd, List.length_append] at h1; omega
  have HD := Lib.hid hd
  clear hd ho ho0 hbo
  by_cases hm0 : m = 0
  ·subst hm0
   have HF : Hid (d = dg N) := Lib.hid (by have := HD.out; first | rwa [dg_zero, List.append_nil] at this | rwa [HMZ.out, dg_zero, List.append_nil] at this)
   have hd1 : 0 < d.length := by rw [HF.out]; exact HN1.out
   go_wp2_with (at_builtin; refine appB rfl (.tmp 30) (.tmp 31) rfl rfl HO.out 45 _ (by simp [byteC]) rfl (by omega) hbz ?_; intro v' w5 h5 k5; obtain ⟨gz, cz, rfl, hgz1, hgz2, hx1, hx2⟩ := h5.form (by simp); clear hx1 hx2)
   have b5 := hb.trans (k5.setOwn HO.out (Nat.le_refl _) hbz)
   have hZL : (d ++ [45]).length = (d.length + 1) := by simp
   have h6 := h5
   rw [hZL] at h6
   have HZ := Lib.hid h6
   have HZL := Lib.hid hZL
   have HE2 : Hid (fmtI (-(N : Int)) = (d ++ [45]).reverse) := Lib.hid (by rw [HE.out, HF.out])
   have hn21 : (d.length + 1) ≤ 21 := by omega
   have hn1 : 0 < (d.length + 1) := by omega
   clear h5 h6 hZL HE HF
   go_loopw [6, 7] (fun iv jv w9 => ∃ i j : Nat, i + j + 1 = (d.length + 1) ∧ i ≤ j + 1 ∧ iv = .int .i64 i ∧ jv = .int .i64 j ∧ OwnB w9 W.heap.size (.slice (some ⟨gz, 0, none⟩) (d.length + 1) cz) (revTo (d ++ [45]) i j) ∧ Below W.heap.size W w9) (fun iv _ _ => (d.length + 1) - (intOf iv).toNat)
   case atStart => exact ⟨0, (d.length + 1) - 1, by omega, by omega, rfl, by show Value.int _ _ = Value.int _ _; first | rfl | (congr 1; omega), by rw [revTo_start (d ++ [45]) (by rw [HZL.out]; omega)]; exact HZ.out, b5⟩
   case round =>
    obtain ⟨i, j, hij, hij2, rfl, rfl, ho, hb6⟩ := hrel
    have hoz := ho
    have hnzz := HZL.out
    have hrl := revTo_length (d ++ [45]) i j
    rw [← hnzz, ← hrl] at hoz
    obtain ⟨g', c', he', hg1, hg2, hcell, hfr⟩ := hoz.form (by omega)
    rw [hrl, hnzz] at he'
    simp only [Value.slice.injEq, Option.some.injEq, Addr.mk.injEq, true_and, and_true] at he'
    obtain ⟨rfl, rfl⟩ := he'
    by_cases hlt : i < j
    ·have hci := hcell i _ (revTo_get (Nat.le_refl _) (by omega) (by omega))
     have hcj := hcell j _ (revTo_get (by omega) (Nat.le_refl _) (by omega))
     have hst := (OwnB.set hoz i (d ++ [45])[j])
     have hst2 := hst
     have hlen9 : (revTo (d ++ [45]) i j).length = ((revTo (d ++ [45]) i j).set i (d ++ [45])[j]).length := List.length_set.symm
     rw [hlen9] at hst2
     have hst3 := hst2.set j (d ++ [45])[i]
     rw [revTo_step (by omega) hlt] at hst3
     generalize (d ++ [45])[i] = ci at *
     generalize (d ++ [45])[j] = cj at *
     unfold byteC at hci hcj
     have hfi := hfr i
     have hfj := hfr j
     have fc : (wr.setCell ⟨gz, i, none⟩ (.int .u8 (cj.toNat : Int))).cell? ⟨gz, j, none⟩ = some (.int .u8 (cj.toNat : Int)) := by
      rw [World.cell?_setCell_other _ _ _ _ (by intro e; simp at e; try omega)]; exact hcj
     have ff : (wr.setCell ⟨gz, i, none⟩ (.int .u8 (cj.toNat : Int))).frozen? ⟨gz, j, none⟩ = false := by
      exact World.ownsRow.frozenAt hst2 j
     have hi0 : (0 : Int) ≤ (i : Int) := by omega
     have hj0 : (0 : Int) ≤ (j : Int) := by omega
     have hin : (i : Int) < (((d.length + 1) : Nat) : Int) := by omega
     have hjn : (j : Int) < (((d.length + 1) : Nat) : Int) := by omega
     have HST := Lib.hid hst3
     have HQQ2 := Lib.hid hnzz
     clear hst hst2 hst3 hlen9 hcell hfr hoz ho hrl hnzz
     go_wp2_with fail
     go_region
     clear fc ff
     go_wp2_with fail
     go_roundw
     case rel =>
      have h9 := HST.out
      first | rw [List.length_set, revTo_length, HZL.out] at h9 | rw [List.length_set, revTo_length] at h9
      exact ⟨i + 1, j - 1, by omega, by omega, by go_num, by show Value.int _ _ = Value.int _ _; first | rfl | (congr 1; omega), h9.below (Below.refl _ _).drew, ((hb6.setCell (p := ⟨gz, i, none⟩) hg2 _).setCell (p := ⟨gz, j, none⟩) hg2 _).drew⟩
     case measure => simp [intOf]; omega
    ·have hbk : (convert 22 9 (.slice (some ⟨gz, 0, none⟩) (d.length + 1) cz)).run Tryz.prog wr = .ok (.string (bs (revTo (d ++ [45]) i j))) wr := by
      have h9 := backS (w := wr) (g := gz) (cap := cz) (l := revTo (d ++ [45]) i j) hcell
      rw [hrl, hnzz] at h9
      exact h9
     have HRV := Lib.hid (revTo_done (z := d ++ [45]) (by omega) hlt hij2)
     clear hcell hfr hoz hrl hnzz ho
     go_wp2_with fail
     go_ret
     exact ⟨by rw [HE2.out, HRV.out]; rfl, hb6⟩
  ·have HS := Lib.hid (dg_step HD.out hm0)
   have tm : Int.tmod (-(m : Int)) 10 = _ := tmod_neg m
   have td : Int.tdiv (-(m : Int)) 10 = _ := tdiv_neg m
   have hcn : (UInt8.ofNat (48 + m % 10)).toNat = 48 + m % 10 := chr_nat
   have hr10 : m % 10 < 10 := Nat.mod_lt _ (by decide)
   have ht : m / 10 < m := Nat.div_lt_self (by omega) (by decide)
   generalize UInt8.ofNat (48 + m % 10) = ch at *
   generalize m % 10 = r at *
   generalize m / 10 = t at *
   have hmz : (-(m : Int) == (0 : Int)) = false := by rw [beq_eq_false_iff_ne]; omega
   have hmz2 : (-(m : Int) != (0 : Int)) = true := by rw [bne_iff_ne]; omega
   have HCN := Lib.hid hcn
   clear hcn
   by_cases hr0 : r = 0
   ·subst hr0
    go_wp2_with (at_builtin; refine appB rfl (.tmp 22) (.tmp 26) rfl rfl HO.out ch _ (by simp [byteC, HCN.out]) rfl (by omega) hbz ?_; intro v' w5 h5 k5)
    go_roundw
    case rel => exact ⟨t, d ++ [ch], by omega, rfl, h5, HS.out, hb.trans (k5.setOwn HO.out (Nat.le_refl _) hbz)⟩
    case measure => simp [intOf]; omega
   ·have hrn : decide (-(r : Int) < 0) = true := decide_eq_true (by omega)
    go_wp2_with (at_builtin; refine appB rfl (.tmp 22) (.tmp 26) rfl rfl HO.out ch _ (by simp [byteC, HCN.out]) rfl (by omega) hbz ?_; intro v' w5 h5 k5)
    go_roundw
    case rel => exact ⟨t, d ++ [ch], by omega, rfl, h5, HS.out, hb.trans (k5.setOwn HO.out (Nat.le_refl _) hbz)⟩
    case measure => simp [intOf]; omega

set_option maxHeartbeats 8000000 in
theorem implFi_pos (N : Nat) (W : World) (hN0 : N ≠ 0) (hN : N ≤ 9223372036854775808) (hr1 : -9223372036854775808 ≤ (N : Int)) (hr2 : (N : Int) ≤ 9223372036854775807) : Calls Tryz.prog 82 #[.int .i64 ((N : Int))] W fun e w' => e = .returned (.string (bs (fmtI ((N : Int))))) ∧ Below W.heap.size W w' := by
 have HE : Hid (fmtI ((N : Int)) = (dg N ++ []).reverse) := Lib.hid (by
  unfold fmtI
  rw [if_neg (by omega)]
  first | (rw [if_pos (by omega), List.reverse_append]; show 45 :: _ = 45 :: _; congr 3; omega) | (rw [if_neg (by omega), List.append_nil]; congr 2))
 have HLN : Hid ((dg N).length ≤ 20) := Lib.hid (dg_len 20 N (by omega))
 have HN1 : Hid (0 < (dg N).length) := Lib.hid (by rw [dg_pos hN0]; simp)
 have hnz : ((N : Int) == (0 : Int)) = false := by rw [beq_eq_false_iff_ne]; omega
 have hN1 : 0 < N := by omega
 have hN2 : decide (0 < N) = true := decide_eq_true hN1
 have hN3 : decide ((N : Int) < 0) = false := decide_eq_false (by omega)
 have hN4 : ¬ (N : Int) < 0 := by omega
 have ho0 := OwnB.made W W.heap.size (Nat.le_refl _)
 have hbo : Below W.heap.size W (W.alloc (.cells #[] 5)) := (Below.refl _ _).alloc (Nat.le_refl _) _
 go_enter Tryz.func82, Tryz.ntmps82
 go_wp2_with fail
 generalize W.alloc (.cells #[] 5) = w0 at *
 go_loopw [3, 4] (fun o nv w9 => ∃ (m : Nat) (d : List UInt8), m ≤ N ∧ nv = .int .i64 ((m : Int)) ∧ OwnB w9 W.heap.size o d ∧ d ++ dg m = dg N ∧ Below W.heap.size W w9) (fun _ nv _ => (intOf nv).natAbs)
 case atStart => exact ⟨N, [], Nat.le_refl _, rfl, ho0, rfl, hbo⟩
 case round =>
  obtain ⟨m, d, hm, rfl, ho, hd, hb⟩ := hrel
  have hbz := hb.size
  have HO := Lib.hid ho
  have hdl : d.length ≤ 20 := by have h1 := HLN.out; rw [← hd, List.length_append] at h1; omega
  have HD := Lib.hid hd
  clear hd ho ho0 hbo
  by_cases hm0 : m = 0
  ·have HMZ := Lib.hid hm0
   have hmz : ((m : Int) == 0) = true := by rw [hm0]; rfl
   have hmz2 : ((m : Int) != 0) = false := by rw [hm0]; rfl
   clear hm0
   have HF : Hid (d = dg N) := Lib.hid (by have := HD.out; first | rwa [dg_zero, List.append_nil] at this | rwa [HMZ.out, dg_zero, List.append_nil] at this)
   have hd1 : 0 < d.length := by rw [HF.out]; exact HN1.out
   have h5 := HO.out
   obtain ⟨gz, cz, rfl, hgz1, hgz2, hx1, hx2⟩ := h5.form hd1
   clear hx1 hx2
   go_wp2_with fail
   have b5 := hb
   have hZL : (d).length = d.length := by simp
   have h6 := h5
   rw [hZL] at h6
   have HZ := Lib.hid h6
   have HZL := Lib.hid hZL
   have HE2 : Hid (fmtI ((N : Int)) = (d).reverse) := Lib.hid (by rw [HE.out, HF.out, List.append_nil])
   have hn21 : d.length ≤ 21 := by omega
   have hn1 : 0 < d.length := by omega
   clear h5 h6 hZL HE HF
   go_loopw [6, 7] (fun iv jv w9 => ∃ i j : Nat, i + j + 1 = d.length ∧ i ≤ j + 1 ∧ iv = .int .i64 i ∧ jv = .int .i64 j ∧ OwnB w9 W.heap.size (.slice (some ⟨gz, 0, none⟩) d.length cz) (revTo (d) i j) ∧ Below W.heap.size W w9) (fun iv _ _ => d.length - (intOf iv).toNat)
   case atStart => exact ⟨0, d.length - 1, by omega, by omega, rfl, by show Value.int _ _ = Value.int _ _; first | rfl | (congr 1; omega), by rw [revTo_start (d) (by rw [HZL.out]; omega)]; exact HZ.out, b5⟩
   case round =>
    obtain ⟨i, j, hij, hij2, rfl, rfl, ho, hb6⟩ := hrel
    have hoz := ho
    have hnzz := HZL.out
    have hrl := revTo_length (d) i j
    rw [← hnzz, ← hrl] at hoz
    obtain ⟨g', c', he', hg1, hg2, hcell, hfr⟩ := hoz.form (by omega)
    rw [hrl, hnzz] at he'
    simp only [Value.slice.injEq, Option.some.injEq, Addr.mk.injEq, true_and, and_true] at he'
    obtain ⟨rfl, rfl⟩ := he'
    by_cases hlt : i < j
    ·have hci := hcell i _ (revTo_get (Nat.le_refl _) (by omega) (by omega))
     have hcj := hcell j _ (revTo_get (by omega) (Nat.le_refl _) (by omega))
     have hst := (OwnB.set hoz i (d)[j])
     have hst2 := hst
     have hlen9 : (revTo (d) i j).length = ((revTo (d) i j).set i (d)[j]).length := List.length_set.symm
     rw [hlen9] at hst2
     have hst3 := hst2.set j (d)[i]
     rw [revTo_step (by omega) hlt] at hst3
     generalize (d)[i] = ci at *
     generalize (d)[j] = cj at *
     unfold byteC at hci hcj
     have hfi := hfr i
     have hfj := hfr j
     have fc : (wr.setCell ⟨gz, i, none⟩ (.int .u8 (cj.toNat : Int))).cell? ⟨gz, j, none⟩ = some (.int .u8 (cj.toNat : Int)) := by
      rw [World.cell?_setCell_other _ _ _ _ (by intro e; simp at e; try omega)]; exact hcj
     have ff : (wr.setCell ⟨gz, i, none⟩ (.int .u8 (cj.toNat : Int))).frozen? ⟨gz, j, none⟩ = false := by
      exact World.ownsRow.frozenAt hst2 j
     have hi0 : (0 : Int) ≤ (i : Int) := by omega
     have hj0 : (0 : Int) ≤ (j : Int) := by omega
     have hin : (i : Int) < ((d.length : Nat) : Int) := by omega
     have hjn : (j : Int) < ((d.length : Nat) : Int) := by omega
     have HST := Lib.hid hst3
     have HQQ2 := Lib.hid hnzz
     clear hst hst2 hst3 hlen9 hcell hfr hoz ho hrl hnzz
     go_wp2_with fail
     go_region
     clear fc ff
     go_wp2_with fail
     go_roundw
     case rel =>
      have h9 := HST.out
      first | rw [List.length_set, revTo_length, HZL.out] at h9 | rw [List.length_set, revTo_length] at h9
      exact ⟨i + 1, j - 1, by omega, by omega, by go_num, by show Value.int _ _ = Value.int _ _; first | rfl | (congr 1; omega), h9.below (Below.refl _ _).drew, ((hb6.setCell (p := ⟨gz, i, none⟩) hg2 _).setCell (p := ⟨gz, j, none⟩) hg2 _).drew⟩
     case measure => simp [intOf]; omega
    ·have hbk : (convert 22 9 (.slice (some ⟨gz, 0, none⟩) d.length cz)).run Tryz.prog wr = .ok (.string (bs (revTo (d) i j))) wr := by
      have h9 := backS (w := wr) (g := gz) (cap := cz) (l := revTo (d) i j) hcell
      rw [hrl, hnzz] at h9
      exact h9
     have HRV := Lib.hid (revTo_done (z := d) (by omega) hlt hij2)
     clear hcell hfr hoz hrl hnzz ho
     go_wp2_with fail
     go_ret
     exact ⟨by rw [HE2.out, HRV.out]; rfl, hb6⟩
  ·have HS := Lib.hid (dg_step HD.out hm0)
   have tm : Int.tmod ((m : Int)) 10 = _ := tmod_pos m
   have td : Int.tdiv ((m : Int)) 10 = _ := tdiv_pos m
   have hcn : (UInt8.ofNat (48 + m % 10)).toNat = 48 + m % 10 := chr_nat
   have hr10 : m % 10 < 10 := Nat.mod_lt _ (by decide)
   have ht : m / 10 < m := Nat.div_lt_self (by omega) (by decide)
   generalize UInt8.ofNat (48 + m % 10) = ch at *
   generalize m % 10 = r at *
   generalize m / 10 = t at *
   have hmz : ((m : Int) == (0 : Int)) = false := by rw [beq_eq_false_iff_ne]; omega
   have hmz2 : ((m : Int) != (0 : Int)) = true := by rw [bne_iff_ne]; omega
   have HCN := Lib.hid hcn
   clear hcn
   by_cases hr0 : r = 0
   ·subst hr0
    go_wp2_with (at_builtin; refine appB rfl (.tmp 22) (.tmp 26) rfl rfl HO.out ch _ (by simp [byteC, HCN.out]) rfl (by omega) hbz ?_; intro v' w5 h5 k5)
    go_roundw
    case rel => exact ⟨t, d ++ [ch], by omega, rfl, h5, HS.out, hb.trans (k5.setOwn HO.out (Nat.le_refl _) hbz)⟩
    case measure => simp [intOf]; omega
   ·have hrn : decide ((r : Int) < 0) = false := decide_eq_false (by omega)
    go_wp2_with (at_builtin; refine appB rfl (.tmp 22) (.tmp 26) rfl rfl HO.out ch _ (by simp [byteC, HCN.out]) rfl (by omega) hbz ?_; intro v' w5 h5 k5)
    go_roundw
    case rel => exact ⟨t, d ++ [ch], by omega, rfl, h5, HS.out, hb.trans (k5.setOwn HO.out (Nat.le_refl _) hbz)⟩
    case measure => simp [intOf]; omega

theorem impl_FormatInt (n : Int) (W : World) (h1 : -9223372036854775808 ≤ n) (h2 : n ≤ 9223372036854775807) : Calls Tryz.prog 82 #[.int .i64 n] W fun e w' => e = .returned (.string (bs (fmtI n))) ∧ Below W.heap.size W w' := by
 by_cases h0 : n = 0
 ·subst h0
  go_enter Tryz.func82, Tryz.ntmps82
  go_wp2_with fail
  go_ret
  exact ⟨rfl, Below.refl _ _⟩
 ·rcases Int.lt_or_le n 0 with h | h
  ·obtain ⟨N, hN⟩ : ∃ N : Nat, n = -(N : Int) := ⟨n.natAbs, by omega⟩
   subst hN
   exact implFi_neg N W (by omega) (by omega) h1 h2
  ·obtain ⟨N, rfl⟩ := Int.eq_ofNat_of_zero_le h
   exact implFi_pos N W (by omega) (by omega) h1 h2
end Go.Proofs.YtfbmpkdjhhcnpaaGreat

