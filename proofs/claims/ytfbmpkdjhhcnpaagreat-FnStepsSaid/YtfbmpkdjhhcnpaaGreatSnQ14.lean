/- FormatSteps of the reference and of the program. No condition but sizes and 64-bit numbers. -/
import Derived.Test.YtfbmpkdjhhcnpaaGreatSnQ13
import Derived.Test.YtfbmpkdjhhcnpaaGreatSnP23
namespace Go.Proofs.YtfbmpkdjhhcnpaaGreat
open Go.RowKit
set_option maxRecDepth 100000
set_option linter.unusedVariables false
set_option linter.unusedSimpArgs false

theorem addY {a b : ByteArray} {l r : List UInt8} (ha : a = bs l) (hb : b = bs r) (h : l.length + r.length ≤ 9223372036854775807) : ∃ s, (∀ w, (Op.stringOp .add a b).run Tryz.prog w = .ok (.string s) w) ∧ Hid (s = bs (l ++ r)) := by
 subst ha; subst hb
 exact ⟨_, addS h, Lib.hid rfl⟩
def stepTx (x : StepT) : List UInt8 :=
 if x.1 = 0 then fmtI x.2.2.1 ++ [45] ++ fmtI x.2.2.2.1
 else if x.1 = 1 then fmtI x.2.1 ++ [58] ++ fmtI x.2.2.1 ++ [44] ++ fmtI x.2.2.2.1
 else if x.1 = 2 then fmtI x.2.1 ++ [58] ++ fmtI x.2.2.1 ++ [45] ++ fmtI x.2.2.2.1 ++ [44] ++ fmtI x.2.2.2.2
 else [63]
def jnTo (sep : List UInt8) (l : List (List UInt8)) : Nat → List UInt8
 | 0 => []
 | k + 1 => (if 0 < k then jnTo sep l k ++ sep else jnTo sep l k) ++ l[k]?.getD []
theorem jnTo_pos {sep : List UInt8} {l : List (List UInt8)} {k : Nat} {t : List UInt8} (hk : 0 < k) (h : l[k]? = some t) : jnTo sep l (k + 1) = jnTo sep l k ++ sep ++ t := by
 simp only [jnTo, if_pos hk, h, Option.getD_some]
theorem jnTo_zero {sep : List UInt8} {l : List (List UInt8)} {k : Nat} {t : List UInt8} (hk : ¬ 0 < k) (h : l[k]? = some t) : jnTo sep l (k + 1) = jnTo sep l k ++ t := by
 simp only [jnTo, if_neg hk, h, Option.getD_some]
def fmtSt (l : List StepT) : List UInt8 := if l.length = 0 then [110, 111, 110, 101] else jnTo [32] (l.map stepTx) l.length
theorem stepTx_pos (x : StepT) : 0 < (stepTx x).length := by
 unfold stepTx; split
 ·simp; omega
 ·split
  ·simp; omega
  ·split
   ·simp; omega
   ·simp
theorem jnTo_ne {sep : List UInt8} {l : List (List UInt8)} (h : ∀ t ∈ l, 0 < t.length) : ∀ {k : Nat}, 0 < k → k ≤ l.length → 0 < (jnTo sep l k).length
 | 0, h0, _ => by omega
 | k + 1, _, hk => by
  have e : l[k]? = some l[k] := List.getElem?_eq_getElem (by omega)
  have := h _ (List.mem_of_getElem? e)
  simp only [jnTo, e, Option.getD_some, List.length_append]; omega

theorem infoStr : (Tryz.prog.info? 9).map (fun i => (i.zero, i.size, i.bytes)) = some (some (.string { data := #[] }), 1, 16) := by kernel_rfl
def strC (t : List UInt8) : Value := .string (bs t)
def OwnStrs (W : World) (base : Nat) (v : Value) (l : List (List UInt8)) : Prop := W.ownsRow base 9 1 v l.length (l.map strC)
theorem OwnStrs.made (W : World) (base : Nat) (h : base ≤ W.heap.size) : OwnStrs (W.alloc (.cells #[] 9)) base (.slice (some ⟨W.heap.size, 0, none⟩) 0 0) [] :=
 World.ownsRow_made W #[] 0 h (Nat.zero_le _) rfl
theorem OwnStrs.below {W W' : World} {base : Nat} {v : Value} {l : List (List UInt8)} (h : OwnStrs W base v l) (hb : Below W.heap.size W W') : OwnStrs W' base v l := Below.ownsRow hb h
theorem appS {w : World} {ops : Array Oper} {rest : List Oper} {o : Oper} {a : Act} {Q : Exit → Act → World → Prop} (hg : o.guard = none) (s x : Operand)
  (ho : o.op = .call { callee := .builtin .append, args := #[s, x], argTypes := #[94, 94] }) {base : Nat} {v : Value} {l : List (List UInt8)} (hs : a.eval s = v) (hown : OwnStrs w base v l) (t : List UInt8) (y : Value) (hy : y = strC t)
  (hx : a.eval x = .slice (some ⟨w.heap.size, 0, none⟩) 1 1) (hl : l.length < 1099511627776) (hbase : base ≤ w.heap.size)
  (hK : ∀ v' w', OwnStrs w' base v' (l ++ [t]) → Kept (fun k => some k = v.ownBlock) w w' → wpList Tryz.prog ops Q rest (a.put o.dst v') w') :
  wpList Tryz.prog ops Q (o :: rest) a (w.alloc (.cells #[y] 9)) := by
 subst hy
 obtain ⟨i0, hi, hz0, hz1, hz2⟩ := info_parts infoStr
 refine wpList_append_own _ hg s x 94 ho base 9 i0 (.string { data := #[] }) 1 16 Tryz.underlying94 hi hz0 hz1 hz2 rfl (by decide) v l.length (l.map strC) hs (World.ownsRow.alloc hown _) ⟨w.heap.size, 0, none⟩ 1 1 [strC t] hx rfl ?_ ?_ ?_ ?_ ?_ ?_
 ·intro j u hu
  have hj : j = 0 := by have := lt_of_getElem? hu; simp at this; omega
  subst hj
  simp at hu
  subst hu
  simp [Addr.add, World.cell?_alloc_new]
 ·intro u hu
  simp at hu
  subst hu
  rfl
 ·unfold maxLen; omega
 ·omega
 ·simp; omega
 ·intro v' w' h1 h2 _
  refine hK v' w' (by unfold OwnStrs; simpa using h1) ?_
  exact (Kept.of_below ((Below.refl _ _).alloc (Nat.le_refl _) _)).trans ⟨h2.os, h2.tape, h2.output, h2.size, fun k hk hs => h2.block k hk hs⟩
theorem OwnStrs.form {W : World} {base : Nat} {v : Value} {l : List (List UInt8)} (h : OwnStrs W base v l) (hn : 0 < l.length) : ∃ g cap, v = .slice (some ⟨g, 0, none⟩) l.length cap ∧ g < W.heap.size ∧ base ≤ g ∧ ∀ j t, l[j]? = some t → W.cell? ⟨g, j, none⟩ = some (.string (bs t)) := by
 have h2 := h
 rcases h.2 with ⟨rfl, h0⟩ | ⟨g, cap, cur, rfl, hb, hg, _⟩
 ·omega
 ·refine ⟨g, cap, rfl, (Array.getElem?_eq_some_iff.1 hg).1, hb, fun j c hj => ?_⟩
  have hjl := lt_of_getElem? hj
  rw [World.ownsRow.cellAt h2 j (by omega)]
  simp [hj, strC]

set_option maxHeartbeats 1000000 in
theorem glued_at (W : World) (g cap B : Nat) (l : List (List UInt8)) (hc : ∀ (j : Nat) t, l[j]? = some t → W.cell? ⟨g, j, none⟩ = some (.string (bs t)) ∧ t.length ≤ B) (sp : ByteArray) (sep : List UInt8) (hsp : sp = bs sep) (hB : (sep.length + B) * l.length ≤ 1000000000000) (hn : l.length ≤ 1048576) :
  Calls Tryz.prog 83 #[.slice (some ⟨g, 0, none⟩) l.length cap, .string sp] W fun e w' => e = .returned (.string (bs (jnTo sep l l.length))) ∧ W = w' := by
 have HC := Lib.hid hc
 have HSP := Lib.hid hsp
 have HB := Lib.hid hB
 clear hc hsp hB
 go_enter Tryz.func83, Tryz.ntmps83
 go_wp2_with fail
 go_loop [5, 10] (fun o i => ∃ (k : Nat) (s : ByteArray), k ≤ l.length ∧ i = .int .i64 k ∧ o = .string s ∧ s = bs (jnTo sep l k) ∧ (jnTo sep l k).length ≤ (sep.length + B) * k) (fun _ i => l.length - (intOf i).toNat)
 case atStart => exact ⟨0, _, Nat.zero_le _, rfl, rfl, rfl, by simp [jnTo]⟩
 case round =>
  obtain ⟨k, s, hk, rfl, rfl, hs, hsl⟩ := hrel
  have HS := Lib.hid hs
  clear hs
  have hki0 : (0 : Int) ≤ (k : Int) := by omega
  by_cases hlt : k < l.length
  ·obtain ⟨t, ht⟩ : ∃ t, l[k]? = some t := ⟨_, List.getElem?_eq_getElem hlt⟩
   obtain ⟨hcell, htl⟩ := HC.out k t ht
   have HT := Lib.hid ht
   have hm := HB.out
   have hm1 : (sep.length + B) * k ≤ (sep.length + B) * l.length := Nat.mul_le_mul_left _ hk
   have hm2 : (sep.length + B) * (k + 1) = (sep.length + B) * k + (sep.length + B) := Nat.mul_succ _ _
   have hm3 : (sep.length + B) * (k + 1) ≤ (sep.length + B) * l.length := Nat.mul_le_mul_left _ hlt
   clear ht
   have hlti : (k : Int) < (l.length : Int) := by omega
   by_cases hk1 : 0 < k
   ·have HJ := Lib.hid (jnTo_pos (sep := sep) hk1 HT.out)
    have hkd : decide (0 < (k : Int)) = true := decide_eq_true (by omega)
    obtain ⟨s1, hs1, S1⟩ := addY HS.out HSP.out (by omega)
    obtain ⟨s2, hs2, S2⟩ := addY (b := bs t) S1.out rfl (by simp only [List.length_append]; omega)
    generalize bs t = tt at *
    go_wp2_with fail
    go_round
    case rel => exact ⟨k + 1, s2, by omega, by go_num, rfl, by rw [S2.out, HJ.out], by rw [HJ.out]; simp only [List.length_append]; omega⟩
    case measure => simp [intOf]; omega
   ·have HJ := Lib.hid (jnTo_zero (sep := sep) hk1 HT.out)
    have hkd : decide (0 < (k : Int)) = false := decide_eq_false (by omega)
    have hkd2 : ¬ (0 : Int) < (k : Int) := by omega
    have hkd3 : ¬ 0 < k := hk1
    obtain ⟨s2, hs2, S2⟩ := addY (b := bs t) HS.out rfl (by omega)
    generalize bs t = tt at *
    clear hk1
    go_wp2_with fail
    go_round
    case rel => exact ⟨k + 1, s2, by omega, by go_num, rfl, by rw [S2.out, HJ.out], by rw [HJ.out]; simp only [List.length_append]; omega⟩
    case measure => simp [intOf]; omega
  ·obtain rfl : k = l.length := by omega
   go_wp2_with fail
   go_ret
   exact ⟨by rw [HS.out]; rfl, rfl⟩

set_option maxHeartbeats 8000000 in
theorem specFs_at (W : World) (a : Option Addr) (cap : Nat) (l : List StepT) (h : StepsAt W a l.length l) (hn : l.length ≤ 1048576) (hok : OkSteps l) :
  Calls Tryz.prog 31 #[.slice a l.length cap] W fun e w' => e = .returned (.string (bs (fmtSt l))) ∧ Below W.heap.size W w' := by
 have HC := Lib.hid h
 have HOK := Lib.hid hok.2
 clear h hok
 have hwd := @Wd.cells
 have HCN : Hid (∀ w9 x, -9223372036854775808 ≤ x → x ≤ 9223372036854775807 → Calls Tryz.prog 84 #[.int .i64 x] w9 fun e w' => e = .returned (.string (bs (fmtI x))) ∧ Below w9.heap.size w9 w') := Lib.hid fun w9 x a b => spec_FormatInt x w9 a b
 have HNE : Hid (∀ k, 0 < k → k ≤ l.length → 0 < (jnTo [32] (l.map stepTx) k).length) := Lib.hid fun k h1 h2 => jnTo_ne (fun t ht => by obtain ⟨x, _, rfl⟩ := List.mem_map.1 ht; exact stepTx_pos x) h1 (by rw [List.length_map]; exact h2)
 go_enter Tryz.func31, Tryz.ntmps31
 go_wp2_with fail
 go_loopw [3, 4] (fun o i w9 => ∃ (k : Nat) (s : ByteArray), k ≤ l.length ∧ i = .int .i64 k ∧ o = .string s ∧ s = bs (jnTo [32] (l.map stepTx) k) ∧ (jnTo [32] (l.map stepTx) k).length ≤ 100 * k ∧ Below W.heap.size W w9) (fun _ i _ => l.length - (intOf i).toNat)
 case atStart => exact ⟨0, _, Nat.zero_le _, rfl, rfl, rfl, by simp [jnTo], Below.refl _ _⟩
 case round =>
  obtain ⟨k, s, hk, rfl, rfl, hs, hsl, hb⟩ := hrel
  have HS := Lib.hid hs
  clear hs
  by_cases hlt : k < l.length
  ·obtain ⟨T, hT⟩ : ∃ T, T = jnTo [32] (l.map stepTx) k := ⟨_, rfl⟩
   rw [← hT] at HS hsl
   have HT := Lib.hid hT
   clear hT
   obtain ⟨b, off, ⟨x1, x2, x3, x4, x5⟩, rfl, hbl, hx, hc0, hc1, hc2, hc3, hc4⟩ := (HC.out.below hb).2 k hlt
   have HX := Lib.hid hx
   obtain ⟨q1, ⟨q2, p2⟩, ⟨q3, p3⟩, ⟨q4, p4⟩, ⟨q5, p5⟩⟩ := HOK.out _ (List.mem_of_getElem? hx)
   dsimp only at hc0 hc1 hc2 hc3 hc4 q1 q2 q3 q4 q5 p2 p3 p4 p5
   have hl2 := fmtI_len q2 p2
   have hl3 := fmtI_len q3 p3
   have hl4 := fmtI_len q4 p4
   have hl5 := fmtI_len q5 p5
   have HTX : Hid ((l.map stepTx)[k]? = some (stepTx (x1, x2, x3, x4, x5))) := Lib.hid (by rw [List.getElem?_map, hx]; rfl)
   clear hx q1
   have hki0 : (0 : Int) ≤ (k : Int) := by omega
   have hlti : (k : Int) < (l.length : Int) := by omega
   have hln : k < l.length := hlt
   have bpl : Below wr.heap.size wr (wr.alloc (.cells #[.int .i64 x1, .int .i64 x2, .int .i64 x3, .int .i64 x4, .int .i64 x5] 57)) := (Below.refl _ _).alloc (Nat.le_refl _) _
   have e0 : (wr.alloc (.cells #[.int .i64 x1, .int .i64 x2, .int .i64 x3, .int .i64 x4, .int .i64 x5] 57)).cell? ⟨wr.heap.size, 0, none⟩ = some (.int .i64 x1) := by simp [World.cell?_alloc_new]
   have e1 : (wr.alloc (.cells #[.int .i64 x1, .int .i64 x2, .int .i64 x3, .int .i64 x4, .int .i64 x5] 57)).cell? ⟨wr.heap.size, 1, none⟩ = some (.int .i64 x2) := by simp [World.cell?_alloc_new]
   have e2 : (wr.alloc (.cells #[.int .i64 x1, .int .i64 x2, .int .i64 x3, .int .i64 x4, .int .i64 x5] 57)).cell? ⟨wr.heap.size, 2, none⟩ = some (.int .i64 x3) := by simp [World.cell?_alloc_new]
   have e3 : (wr.alloc (.cells #[.int .i64 x1, .int .i64 x2, .int .i64 x3, .int .i64 x4, .int .i64 x5] 57)).cell? ⟨wr.heap.size, 3, none⟩ = some (.int .i64 x4) := by simp [World.cell?_alloc_new]
   have e4 : (wr.alloc (.cells #[.int .i64 x1, .int .i64 x2, .int .i64 x3, .int .i64 x4, .int .i64 x5] 57)).cell? ⟨wr.heap.size, 4, none⟩ = some (.int .i64 x5) := by simp [World.cell?_alloc_new]
   have pz : wr.heap.size < (wr.alloc (.cells #[.int .i64 x1, .int .i64 x2, .int .i64 x3, .int .i64 x4, .int .i64 x5] 57)).heap.size := by simp
   by_cases hkp : 0 < k
   ·have hk1 := Lib.hid hkp
    have hkg : decide (0 < (k : Int)) = true := decide_eq_true (by omega)
    obtain ⟨s1, hs1, S1⟩ := addY (a := s) (b := { data := #[32] }) HS.out (show _ = bs [32] from rfl) (by simp only [List.length_cons, List.length_nil]; omega)
    go_upto_region 8 with (fail)
    clear hc0 hc1 hc2 hc3 hc4
    have hb4 := hb.step bpl
    generalize (wr.alloc (.cells #[.int .i64 x1, .int .i64 x2, .int .i64 x3, .int .i64 x4, .int .i64 x5] 57)) = w4 at *
    clear bpl
    by_cases hkd : x1 = 0
    ·have HSX : Hid (stepTx (x1, x2, x3, x4, x5) = fmtI x3 ++ [45] ++ fmtI x4) := Lib.hid (by unfold stepTx; dsimp only; rw [if_pos hkd])
     have HJ : Hid (jnTo [32] (l.map stepTx) (k + 1) = jnTo [32] (l.map stepTx) k ++ [32] ++ (fmtI x3 ++ [45] ++ fmtI x4)) := Lib.hid (by rw [jnTo_pos hk1.out HTX.out, HSX.out])
     have kd0 : (x1 == (0 : Int)) = true := by simp <;> omega
     obtain ⟨t1, ht1, T1⟩ := addY (a := s1) (b := bs (fmtI x3)) S1.out rfl (by (try simp only [List.length_append, List.length_cons, List.length_nil]); omega)
     obtain ⟨t2, ht2, T2⟩ := addY (a := t1) (b := { data := #[45] }) T1.out (show _ = bs [45] from rfl) (by (try simp only [List.length_append, List.length_cons, List.length_nil]); omega)
     obtain ⟨t3, ht3, T3⟩ := addY (a := t2) (b := bs (fmtI x4)) T2.out rfl (by (try simp only [List.length_append, List.length_cons, List.length_nil]); omega)
     go_wp2_with fail
     refine wp_region_wd (by kernel_rfl) (by kernel_rfl) ?_
     repeat (go_big_quiet_step ((first | (go_at_call 84; exact Calls.wd_of (HCN.out _ _ (by assumption) (by assumption))))))
     refine wpQuiet_nil ?_
     intro n1
     have b9 := n1.h
     go_wp2_with fail
     go_roundw
     case rel =>
      refine ⟨k + 1, t3, by omega, by go_num, rfl, ?_, ?_, hb4.step b9⟩
      ·rw [T3.out, HJ.out, ← HT.out]
       try simp only [List.append_assoc]
      ·rw [HJ.out, ← HT.out]; simp only [List.length_append, List.length_cons, List.length_nil]; omega
     case measure => simp [intOf]; omega
    by_cases hkd : x1 = 1
    ·have HSX : Hid (stepTx (x1, x2, x3, x4, x5) = fmtI x2 ++ [58] ++ fmtI x3 ++ [44] ++ fmtI x4) := Lib.hid (by unfold stepTx; dsimp only; rw [if_neg (by omega), if_pos hkd])
     have HJ : Hid (jnTo [32] (l.map stepTx) (k + 1) = jnTo [32] (l.map stepTx) k ++ [32] ++ (fmtI x2 ++ [58] ++ fmtI x3 ++ [44] ++ fmtI x4)) := Lib.hid (by rw [jnTo_pos hk1.out HTX.out, HSX.out])
     have kd0 : (x1 == (0 : Int)) = false := by simp <;> omega
     have kd1 : (x1 == (1 : Int)) = true := by simp <;> omega
     obtain ⟨t1, ht1, T1⟩ := addY (a := s1) (b := bs (fmtI x2)) S1.out rfl (by (try simp only [List.length_append, List.length_cons, List.length_nil]); omega)
     obtain ⟨t2, ht2, T2⟩ := addY (a := t1) (b := { data := #[58] }) T1.out (show _ = bs [58] from rfl) (by (try simp only [List.length_append, List.length_cons, List.length_nil]); omega)
     obtain ⟨t3, ht3, T3⟩ := addY (a := t2) (b := bs (fmtI x3)) T2.out rfl (by (try simp only [List.length_append, List.length_cons, List.length_nil]); omega)
     obtain ⟨t4, ht4, T4⟩ := addY (a := t3) (b := { data := #[44] }) T3.out (show _ = bs [44] from rfl) (by (try simp only [List.length_append, List.length_cons, List.length_nil]); omega)
     obtain ⟨t5, ht5, T5⟩ := addY (a := t4) (b := bs (fmtI x4)) T4.out rfl (by (try simp only [List.length_append, List.length_cons, List.length_nil]); omega)
     go_wp2_with fail
     refine wp_region_wd (by kernel_rfl) (by kernel_rfl) ?_
     repeat (go_big_quiet_step ((first | (go_at_call 84; exact Calls.wd_of (HCN.out _ _ (by assumption) (by assumption))))))
     refine wpQuiet_nil ?_
     intro n1
     have b9 := n1.h
     go_wp2_with fail
     go_roundw
     case rel =>
      refine ⟨k + 1, t5, by omega, by go_num, rfl, ?_, ?_, hb4.step b9⟩
      ·rw [T5.out, HJ.out, ← HT.out]
       try simp only [List.append_assoc]
      ·rw [HJ.out, ← HT.out]; simp only [List.length_append, List.length_cons, List.length_nil]; omega
     case measure => simp [intOf]; omega
    by_cases hkd : x1 = 2
    ·have HSX : Hid (stepTx (x1, x2, x3, x4, x5) = fmtI x2 ++ [58] ++ fmtI x3 ++ [45] ++ fmtI x4 ++ [44] ++ fmtI x5) := Lib.hid (by unfold stepTx; dsimp only; rw [if_neg (by omega), if_neg (by omega), if_pos hkd])
     have HJ : Hid (jnTo [32] (l.map stepTx) (k + 1) = jnTo [32] (l.map stepTx) k ++ [32] ++ (fmtI x2 ++ [58] ++ fmtI x3 ++ [45] ++ fmtI x4 ++ [44] ++ fmtI x5)) := Lib.hid (by rw [jnTo_pos hk1.out HTX.out, HSX.out])
     have kd0 : (x1 == (0 : Int)) = false := by simp <;> omega
     have kd1 : (x1 == (1 : Int)) = false := by simp <;> omega
     have kd2 : (x1 == (2 : Int)) = true := by simp <;> omega
     obtain ⟨t1, ht1, T1⟩ := addY (a := s1) (b := bs (fmtI x2)) S1.out rfl (by (try simp only [List.length_append, List.length_cons, List.length_nil]); omega)
     obtain ⟨t2, ht2, T2⟩ := addY (a := t1) (b := { data := #[58] }) T1.out (show _ = bs [58] from rfl) (by (try simp only [List.length_append, List.length_cons, List.length_nil]); omega)
     obtain ⟨t3, ht3, T3⟩ := addY (a := t2) (b := bs (fmtI x3)) T2.out rfl (by (try simp only [List.length_append, List.length_cons, List.length_nil]); omega)
     obtain ⟨t4, ht4, T4⟩ := addY (a := t3) (b := { data := #[45] }) T3.out (show _ = bs [45] from rfl) (by (try simp only [List.length_append, List.length_cons, List.length_nil]); omega)
     obtain ⟨t5, ht5, T5⟩ := addY (a := t4) (b := bs (fmtI x4)) T4.out rfl (by (try simp only [List.length_append, List.length_cons, List.length_nil]); omega)
     obtain ⟨t6, ht6, T6⟩ := addY (a := t5) (b := { data := #[44] }) T5.out (show _ = bs [44] from rfl) (by (try simp only [List.length_append, List.length_cons, List.length_nil]); omega)
     obtain ⟨t7, ht7, T7⟩ := addY (a := t6) (b := bs (fmtI x5)) T6.out rfl (by (try simp only [List.length_append, List.length_cons, List.length_nil]); omega)
     go_wp2_with fail
     refine wp_region_wd (by kernel_rfl) (by kernel_rfl) ?_
     repeat (go_big_quiet_step ((first | (go_at_call 84; exact Calls.wd_of (HCN.out _ _ (by assumption) (by assumption))))))
     refine wpQuiet_nil ?_
     intro n1
     have b9 := n1.h
     go_wp2_with fail
     go_roundw
     case rel =>
      refine ⟨k + 1, t7, by omega, by go_num, rfl, ?_, ?_, hb4.step b9⟩
      ·rw [T7.out, HJ.out, ← HT.out]
       try simp only [List.append_assoc]
      ·rw [HJ.out, ← HT.out]; simp only [List.length_append, List.length_cons, List.length_nil]; omega
     case measure => simp [intOf]; omega
    have HSX : Hid (stepTx (x1, x2, x3, x4, x5) = [63]) := Lib.hid (by unfold stepTx; dsimp only; rw [if_neg (by omega), if_neg (by omega), if_neg (by omega)])
    have HJ : Hid (jnTo [32] (l.map stepTx) (k + 1) = jnTo [32] (l.map stepTx) k ++ [32] ++ ([63])) := Lib.hid (by rw [jnTo_pos hk1.out HTX.out, HSX.out])
    have kd0 : (x1 == (0 : Int)) = false := by simp <;> omega
    have kd1 : (x1 == (1 : Int)) = false := by simp <;> omega
    have kd2 : (x1 == (2 : Int)) = false := by simp <;> omega
    obtain ⟨t1, ht1, T1⟩ := addY (a := s1) (b := { data := #[63] }) S1.out (show _ = bs [63] from rfl) (by (try simp only [List.length_append, List.length_cons, List.length_nil]); omega)
    go_wp2_with fail
    go_roundw
    case rel =>
     refine ⟨k + 1, t1, by omega, by go_num, rfl, ?_, ?_, hb4⟩
     ·rw [T1.out, HJ.out, ← HT.out]
      try simp only [List.append_assoc]
     ·rw [HJ.out, ← HT.out]; simp only [List.length_append, List.length_cons, List.length_nil]; omega
    case measure => simp [intOf]; omega
   ·have hk1 := Lib.hid hkp
    have hkg : decide (0 < (k : Int)) = false := decide_eq_false (by omega)
    have hkg2 : ¬ (0 : Int) < (k : Int) := by omega
    go_upto_region 8 with (fail)
    clear hc0 hc1 hc2 hc3 hc4
    have hb4 := hb.step bpl
    generalize (wr.alloc (.cells #[.int .i64 x1, .int .i64 x2, .int .i64 x3, .int .i64 x4, .int .i64 x5] 57)) = w4 at *
    clear bpl
    by_cases hkd : x1 = 0
    ·have HSX : Hid (stepTx (x1, x2, x3, x4, x5) = fmtI x3 ++ [45] ++ fmtI x4) := Lib.hid (by unfold stepTx; dsimp only; rw [if_pos hkd])
     have HJ : Hid (jnTo [32] (l.map stepTx) (k + 1) = jnTo [32] (l.map stepTx) k ++ (fmtI x3 ++ [45] ++ fmtI x4)) := Lib.hid (by rw [jnTo_zero hk1.out HTX.out, HSX.out])
     have kd0 : (x1 == (0 : Int)) = true := by simp <;> omega
     obtain ⟨t1, ht1, T1⟩ := addY (a := s) (b := bs (fmtI x3)) HS.out rfl (by (try simp only [List.length_append, List.length_cons, List.length_nil]); omega)
     obtain ⟨t2, ht2, T2⟩ := addY (a := t1) (b := { data := #[45] }) T1.out (show _ = bs [45] from rfl) (by (try simp only [List.length_append, List.length_cons, List.length_nil]); omega)
     obtain ⟨t3, ht3, T3⟩ := addY (a := t2) (b := bs (fmtI x4)) T2.out rfl (by (try simp only [List.length_append, List.length_cons, List.length_nil]); omega)
     go_wp2_with fail
     refine wp_region_wd (by kernel_rfl) (by kernel_rfl) ?_
     repeat (go_big_quiet_step ((first | (go_at_call 84; exact Calls.wd_of (HCN.out _ _ (by assumption) (by assumption))))))
     refine wpQuiet_nil ?_
     intro n1
     have b9 := n1.h
     go_wp2_with fail
     go_roundw
     case rel =>
      refine ⟨k + 1, t3, by omega, by go_num, rfl, ?_, ?_, hb4.step b9⟩
      ·rw [T3.out, HJ.out, ← HT.out]
       try simp only [List.append_assoc]
      ·rw [HJ.out, ← HT.out]; simp only [List.length_append, List.length_cons, List.length_nil]; omega
     case measure => simp [intOf]; omega
    by_cases hkd : x1 = 1
    ·have HSX : Hid (stepTx (x1, x2, x3, x4, x5) = fmtI x2 ++ [58] ++ fmtI x3 ++ [44] ++ fmtI x4) := Lib.hid (by unfold stepTx; dsimp only; rw [if_neg (by omega), if_pos hkd])
     have HJ : Hid (jnTo [32] (l.map stepTx) (k + 1) = jnTo [32] (l.map stepTx) k ++ (fmtI x2 ++ [58] ++ fmtI x3 ++ [44] ++ fmtI x4)) := Lib.hid (by rw [jnTo_zero hk1.out HTX.out, HSX.out])
     have kd0 : (x1 == (0 : Int)) = false := by simp <;> omega
     have kd1 : (x1 == (1 : Int)) = true := by simp <;> omega
     obtain ⟨t1, ht1, T1⟩ := addY (a := s) (b := bs (fmtI x2)) HS.out rfl (by (try simp only [List.length_append, List.length_cons, List.length_nil]); omega)
     obtain ⟨t2, ht2, T2⟩ := addY (a := t1) (b := { data := #[58] }) T1.out (show _ = bs [58] from rfl) (by (try simp only [List.length_append, List.length_cons, List.length_nil]); omega)
     obtain ⟨t3, ht3, T3⟩ := addY (a := t2) (b := bs (fmtI x3)) T2.out rfl (by (try simp only [List.length_append, List.length_cons, List.length_nil]); omega)
     obtain ⟨t4, ht4, T4⟩ := addY (a := t3) (b := { data := #[44] }) T3.out (show _ = bs [44] from rfl) (by (try simp only [List.length_append, List.length_cons, List.length_nil]); omega)
     obtain ⟨t5, ht5, T5⟩ := addY (a := t4) (b := bs (fmtI x4)) T4.out rfl (by (try simp only [List.length_append, List.length_cons, List.length_nil]); omega)
     go_wp2_with fail
     refine wp_region_wd (by kernel_rfl) (by kernel_rfl) ?_
     repeat (go_big_quiet_step ((first | (go_at_call 84; exact Calls.wd_of (HCN.out _ _ (by assumption) (by assumption))))))
     refine wpQuiet_nil ?_
     intro n1
     have b9 := n1.h
     go_wp2_with fail
     go_roundw
     case rel =>
      refine ⟨k + 1, t5, by omega, by go_num, rfl, ?_, ?_, hb4.step b9⟩
      ·rw [T5.out, HJ.out, ← HT.out]
       try simp only [List.append_assoc]
      ·rw [HJ.out, ← HT.out]; simp only [List.length_append, List.length_cons, List.length_nil]; omega
     case measure => simp [intOf]; omega
    by_cases hkd : x1 = 2
    ·have HSX : Hid (stepTx (x1, x2, x3, x4, x5) = fmtI x2 ++ [58] ++ fmtI x3 ++ [45] ++ fmtI x4 ++ [44] ++ fmtI x5) := Lib.hid (by unfold stepTx; dsimp only; rw [if_neg (by omega), if_neg (by omega), if_pos hkd])
     have HJ : Hid (jnTo [32] (l.map stepTx) (k + 1) = jnTo [32] (l.map stepTx) k ++ (fmtI x2 ++ [58] ++ fmtI x3 ++ [45] ++ fmtI x4 ++ [44] ++ fmtI x5)) := Lib.hid (by rw [jnTo_zero hk1.out HTX.out, HSX.out])
     have kd0 : (x1 == (0 : Int)) = false := by simp <;> omega
     have kd1 : (x1 == (1 : Int)) = false := by simp <;> omega
     have kd2 : (x1 == (2 : Int)) = true := by simp <;> omega
     obtain ⟨t1, ht1, T1⟩ := addY (a := s) (b := bs (fmtI x2)) HS.out rfl (by (try simp only [List.length_append, List.length_cons, List.length_nil]); omega)
     obtain ⟨t2, ht2, T2⟩ := addY (a := t1) (b := { data := #[58] }) T1.out (show _ = bs [58] from rfl) (by (try simp only [List.length_append, List.length_cons, List.length_nil]); omega)
     obtain ⟨t3, ht3, T3⟩ := addY (a := t2) (b := bs (fmtI x3)) T2.out rfl (by (try simp only [List.length_append, List.length_cons, List.length_nil]); omega)
     obtain ⟨t4, ht4, T4⟩ := addY (a := t3) (b := { data := #[45] }) T3.out (show _ = bs [45] from rfl) (by (try simp only [List.length_append, List.length_cons, List.length_nil]); omega)
     obtain ⟨t5, ht5, T5⟩ := addY (a := t4) (b := bs (fmtI x4)) T4.out rfl (by (try simp only [List.length_append, List.length_cons, List.length_nil]); omega)
     obtain ⟨t6, ht6, T6⟩ := addY (a := t5) (b := { data := #[44] }) T5.out (show _ = bs [44] from rfl) (by (try simp only [List.length_append, List.length_cons, List.length_nil]); omega)
     obtain ⟨t7, ht7, T7⟩ := addY (a := t6) (b := bs (fmtI x5)) T6.out rfl (by (try simp only [List.length_append, List.length_cons, List.length_nil]); omega)
     go_wp2_with fail
     refine wp_region_wd (by kernel_rfl) (by kernel_rfl) ?_
     repeat (go_big_quiet_step ((first | (go_at_call 84; exact Calls.wd_of (HCN.out _ _ (by assumption) (by assumption))))))
     refine wpQuiet_nil ?_
     intro n1
     have b9 := n1.h
     go_wp2_with fail
     go_roundw
     case rel =>
      refine ⟨k + 1, t7, by omega, by go_num, rfl, ?_, ?_, hb4.step b9⟩
      ·rw [T7.out, HJ.out, ← HT.out]
       try simp only [List.append_assoc]
      ·rw [HJ.out, ← HT.out]; simp only [List.length_append, List.length_cons, List.length_nil]; omega
     case measure => simp [intOf]; omega
    have HSX : Hid (stepTx (x1, x2, x3, x4, x5) = [63]) := Lib.hid (by unfold stepTx; dsimp only; rw [if_neg (by omega), if_neg (by omega), if_neg (by omega)])
    have HJ : Hid (jnTo [32] (l.map stepTx) (k + 1) = jnTo [32] (l.map stepTx) k ++ ([63])) := Lib.hid (by rw [jnTo_zero hk1.out HTX.out, HSX.out])
    have kd0 : (x1 == (0 : Int)) = false := by simp <;> omega
    have kd1 : (x1 == (1 : Int)) = false := by simp <;> omega
    have kd2 : (x1 == (2 : Int)) = false := by simp <;> omega
    obtain ⟨t1, ht1, T1⟩ := addY (a := s) (b := { data := #[63] }) HS.out (show _ = bs [63] from rfl) (by (try simp only [List.length_append, List.length_cons, List.length_nil]); omega)
    go_wp2_with fail
    go_roundw
    case rel =>
     refine ⟨k + 1, t1, by omega, by go_num, rfl, ?_, ?_, hb4⟩
     ·rw [T1.out, HJ.out, ← HT.out]
      try simp only [List.append_assoc]
     ·rw [HJ.out, ← HT.out]; simp only [List.length_append, List.length_cons, List.length_nil]; omega
    case measure => simp [intOf]; omega
  ·obtain rfl : k = l.length := by omega
   have hki : decide ((l.length : Int) < (l.length : Int)) = false := by simp
   by_cases h0 : l.length = 0
   ·have hse : s = { data := #[] } := by rw [HS.out, h0]; rfl
    have HE : Hid (fmtSt l = [110, 111, 110, 101]) := Lib.hid (if_pos h0)
    clear h0
    subst hse
    go_wp2_with fail
    go_ret
    exact ⟨by rw [HE.out]; rfl, hb⟩
   ·have HE : Hid (s = bs (fmtSt l)) := Lib.hid (by rw [HS.out]; unfold fmtSt; rw [if_neg h0])
    have hne : s.toList.isEmpty = false := by
     have h1 := HNE.out l.length (by omega) (Nat.le_refl _)
     rw [ByteArray.toList_eq, HS.out, bs_data]
     cases hj : jnTo [32] (l.map stepTx) l.length with
     | nil => rw [hj] at h1; simp at h1
     | cons a b => rfl
    go_wp2_with fail
    go_ret
    exact ⟨by rw [← HE.out]; rfl, hb⟩
theorem spec_FormatSteps (W : World) (v : Value) (l : List StepT) (h : IsSteps W v l) (hn : l.length ≤ 1048576) (hok : OkSteps l) : Calls Tryz.prog 31 #[v] W fun e w' => e = .returned (.string (bs (fmtSt l))) ∧ Below W.heap.size W w' := by
 obtain ⟨a, cap, rfl, hi⟩ := h
 exact specFs_at _ _ _ _ hi hn hok


set_option maxHeartbeats 8000000 in
theorem implFs_at (W : World) (a : Option Addr) (cap : Nat) (l : List StepT) (h : StepsAt W a l.length l) (hn : l.length ≤ 1048576) (hok : OkSteps l) :
  Calls Tryz.prog 30 #[.slice a l.length cap] W fun e w' => e = .returned (.string (bs (fmtSt l))) ∧ Below W.heap.size W w' := by
 have HC := Lib.hid h
 have HOK := Lib.hid hok.2
 clear h hok
 have hwd := @Wd.cells
 have HCN : Hid (∀ w9 x, -9223372036854775808 ≤ x → x ≤ 9223372036854775807 → Calls Tryz.prog 82 #[.int .i64 x] w9 fun e w' => e = .returned (.string (bs (fmtI x))) ∧ Below w9.heap.size w9 w') := Lib.hid fun w9 x a b => impl_FormatInt x w9 a b
 have HTL : Hid (∀ x ∈ l, (stepTx x).length ≤ 90) := Lib.hid fun x hx => by
  obtain ⟨q1, ⟨q2, p2⟩, ⟨q3, p3⟩, ⟨q4, p4⟩, ⟨q5, p5⟩⟩ := HOK.out x hx
  have hl2 := fmtI_len q2 p2
  have hl3 := fmtI_len q3 p3
  have hl4 := fmtI_len q4 p4
  have hl5 := fmtI_len q5 p5
  unfold stepTx
  split
  ·simp only [List.length_append, List.length_cons, List.length_nil]; omega
  ·split
   ·simp only [List.length_append, List.length_cons, List.length_nil]; omega
   ·split
    ·simp only [List.length_append, List.length_cons, List.length_nil]; omega
    ·simp
 by_cases h0 : l.length = 0
 ·have HE : Hid (fmtSt l = [110, 111, 110, 101]) := Lib.hid (if_pos h0)
  have h00 : ((l.length : Int) == 0) = true := by rw [h0]; rfl
  clear h0
  go_enter Tryz.func30, Tryz.ntmps30
  go_wp2_with fail
  go_ret
  exact ⟨by rw [HE.out]; rfl, Below.refl _ _⟩
 have HE : Hid (fmtSt l = jnTo [32] (l.map stepTx) l.length) := Lib.hid (if_neg h0)
 have h00 : ((l.length : Int) == 0) = false := by rw [beq_eq_false_iff_ne]; omega
 have hl0 : 0 < l.length := by omega
 clear h0
 have ho0 := OwnStrs.made W W.heap.size (Nat.le_refl _)
 have hbo : Below W.heap.size W (W.alloc (.cells #[] 9)) := (Below.refl _ _).alloc (Nat.le_refl _) _
 have HO0 := Lib.hid ho0
 clear ho0
 go_enter Tryz.func30, Tryz.ntmps30
 go_wp2_with fail
 generalize W.alloc (.cells #[] 9) = w0 at *
 go_loopw [3, 16] (fun o i w9 => ∃ k : Nat, k ≤ l.length ∧ i = .int .i64 k ∧ OwnStrs w9 W.heap.size o ((l.take k).map stepTx) ∧ Below W.heap.size W w9) (fun _ i _ => l.length - (intOf i).toNat)
 case atStart => exact ⟨0, Nat.zero_le _, rfl, HO0.out, hbo⟩
 case round =>
  clear HO0 hbo
  obtain ⟨k, hk, rfl, ho, hb⟩ := hrel
  have HO := Lib.hid ho
  clear ho
  by_cases hlt : k < l.length
  ·obtain ⟨b, off, ⟨x1, x2, x3, x4, x5⟩, rfl, hbl, hx, hc0, hc1, hc2, hc3, hc4⟩ := (HC.out.below hb).2 k hlt
   have HX := Lib.hid hx
   obtain ⟨q1, ⟨q2, p2⟩, ⟨q3, p3⟩, ⟨q4, p4⟩, ⟨q5, p5⟩⟩ := HOK.out _ (List.mem_of_getElem? hx)
   dsimp only at hc0 hc1 hc2 hc3 hc4 q1 q2 q3 q4 q5 p2 p3 p4 p5
   have hl2 := fmtI_len q2 p2
   have hl3 := fmtI_len q3 p3
   have hl4 := fmtI_len q4 p4
   have hl5 := fmtI_len q5 p5
   have HTX : Hid ((l.map stepTx)[k]? = some (stepTx (x1, x2, x3, x4, x5))) := Lib.hid (by rw [List.getElem?_map, hx]; rfl)
   clear hx q1
   have hki0 : (0 : Int) ≤ (k : Int) := by omega
   have hlti : (k : Int) < (l.length : Int) := by omega
   have hln : k < l.length := hlt
   have bpl : Below wr.heap.size wr (wr.alloc (.cells #[.int .i64 x1, .int .i64 x2, .int .i64 x3, .int .i64 x4, .int .i64 x5] 57)) := (Below.refl _ _).alloc (Nat.le_refl _) _
   have e0 : (wr.alloc (.cells #[.int .i64 x1, .int .i64 x2, .int .i64 x3, .int .i64 x4, .int .i64 x5] 57)).cell? ⟨wr.heap.size, 0, none⟩ = some (.int .i64 x1) := by simp [World.cell?_alloc_new]
   have e1 : (wr.alloc (.cells #[.int .i64 x1, .int .i64 x2, .int .i64 x3, .int .i64 x4, .int .i64 x5] 57)).cell? ⟨wr.heap.size, 1, none⟩ = some (.int .i64 x2) := by simp [World.cell?_alloc_new]
   have e2 : (wr.alloc (.cells #[.int .i64 x1, .int .i64 x2, .int .i64 x3, .int .i64 x4, .int .i64 x5] 57)).cell? ⟨wr.heap.size, 2, none⟩ = some (.int .i64 x3) := by simp [World.cell?_alloc_new]
   have e3 : (wr.alloc (.cells #[.int .i64 x1, .int .i64 x2, .int .i64 x3, .int .i64 x4, .int .i64 x5] 57)).cell? ⟨wr.heap.size, 3, none⟩ = some (.int .i64 x4) := by simp [World.cell?_alloc_new]
   have e4 : (wr.alloc (.cells #[.int .i64 x1, .int .i64 x2, .int .i64 x3, .int .i64 x4, .int .i64 x5] 57)).cell? ⟨wr.heap.size, 4, none⟩ = some (.int .i64 x5) := by simp [World.cell?_alloc_new]
   have pz : wr.heap.size < (wr.alloc (.cells #[.int .i64 x1, .int .i64 x2, .int .i64 x3, .int .i64 x4, .int .i64 x5] 57)).heap.size := by simp
   go_wp2_with fail
   clear hc0 hc1 hc2 hc3 hc4
   have hb4 := hb.step bpl
   have HO4 := Lib.hid (HO.out.below bpl)
   have HO9 := HO4
   generalize (wr.alloc (.cells #[.int .i64 x1, .int .i64 x2, .int .i64 x3, .int .i64 x4, .int .i64 x5] 57)) = w4 at *
   clear bpl
   refine wp_region_wd (by kernel_rfl) (by kernel_rfl) ?_
   repeat (go_big_quiet_step ((first | (go_at_call 82; exact Calls.wd_of (HCN.out _ _ (by assumption) (by assumption))))))
   refine wpQuiet_nil ?_
   intro n1
   have b9 := n1.h
   have hb5 := hb4.step b9
   have HO5 := Lib.hid (HO4.out.below b9)
   have hbz := hb5.size
   have f0 := ((bcell b9).1 _ _ pz).trans e0
   generalize hw5 : n1.w = w5 at *
   clear e0 e1 e2 e3 e4 hwd
   by_cases hkd : x1 = 0
   ·have kd0 : (x1 == (0 : Int)) = true := by simp <;> omega
    obtain ⟨t1, ht1, T1⟩ := addY (a := bs (fmtI x3)) (b := { data := #[45] }) (show bs (fmtI x3) = bs (fmtI x3) from rfl) (show _ = bs [45] from rfl) (by (try simp only [List.length_append, List.length_cons, List.length_nil]); omega)
    obtain ⟨t2, ht2, T2⟩ := addY (a := t1) (b := bs (fmtI x4)) T1.out rfl (by (try simp only [List.length_append, List.length_cons, List.length_nil]); omega)
    have HST : Hid (t2 = bs (stepTx (x1, x2, x3, x4, x5))) := Lib.hid (by rw [T2.out]; unfold stepTx; dsimp only; rw [if_pos hkd])
    go_wp2_with (at_builtin; refine appS rfl (.tmp 39) (.tmp 44) rfl rfl HO5.out (stepTx (x1, x2, x3, x4, x5)) _ (by rw [HST.out]; rfl) rfl (by simp; omega) hbz ?_; intro v7 w7 h7 k7)
    go_roundw
    case rel => exact ⟨k + 1, by omega, by go_num, by rw [take_succ_of HX.out, List.map_append]; exact h7, hb5.trans (k7.setOwn HO5.out (Nat.le_refl _) hbz)⟩
    case measure => simp [intOf]; omega
   by_cases hkd : x1 = 1
   ·have kd0 : (x1 == (0 : Int)) = false := by simp <;> omega
    have kd1 : (x1 == (1 : Int)) = true := by simp <;> omega
    obtain ⟨t1, ht1, T1⟩ := addY (a := bs (fmtI x2)) (b := { data := #[58] }) (show bs (fmtI x2) = bs (fmtI x2) from rfl) (show _ = bs [58] from rfl) (by (try simp only [List.length_append, List.length_cons, List.length_nil]); omega)
    obtain ⟨t2, ht2, T2⟩ := addY (a := t1) (b := bs (fmtI x3)) T1.out rfl (by (try simp only [List.length_append, List.length_cons, List.length_nil]); omega)
    obtain ⟨t3, ht3, T3⟩ := addY (a := t2) (b := { data := #[44] }) T2.out (show _ = bs [44] from rfl) (by (try simp only [List.length_append, List.length_cons, List.length_nil]); omega)
    obtain ⟨t4, ht4, T4⟩ := addY (a := t3) (b := bs (fmtI x4)) T3.out rfl (by (try simp only [List.length_append, List.length_cons, List.length_nil]); omega)
    have HST : Hid (t4 = bs (stepTx (x1, x2, x3, x4, x5))) := Lib.hid (by rw [T4.out]; unfold stepTx; dsimp only; rw [if_neg (by omega), if_pos hkd])
    go_wp2_with (at_builtin; refine appS rfl (.tmp 48) (.tmp 56) rfl rfl HO5.out (stepTx (x1, x2, x3, x4, x5)) _ (by rw [HST.out]; rfl) rfl (by simp; omega) hbz ?_; intro v7 w7 h7 k7)
    go_roundw
    case rel => exact ⟨k + 1, by omega, by go_num, by rw [take_succ_of HX.out, List.map_append]; exact h7, hb5.trans (k7.setOwn HO5.out (Nat.le_refl _) hbz)⟩
    case measure => simp [intOf]; omega
   by_cases hkd : x1 = 2
   ·have kd0 : (x1 == (0 : Int)) = false := by simp <;> omega
    have kd1 : (x1 == (1 : Int)) = false := by simp <;> omega
    have kd2 : (x1 == (2 : Int)) = true := by simp <;> omega
    obtain ⟨t1, ht1, T1⟩ := addY (a := bs (fmtI x2)) (b := { data := #[58] }) (show bs (fmtI x2) = bs (fmtI x2) from rfl) (show _ = bs [58] from rfl) (by (try simp only [List.length_append, List.length_cons, List.length_nil]); omega)
    obtain ⟨t2, ht2, T2⟩ := addY (a := t1) (b := bs (fmtI x3)) T1.out rfl (by (try simp only [List.length_append, List.length_cons, List.length_nil]); omega)
    obtain ⟨t3, ht3, T3⟩ := addY (a := t2) (b := { data := #[45] }) T2.out (show _ = bs [45] from rfl) (by (try simp only [List.length_append, List.length_cons, List.length_nil]); omega)
    obtain ⟨t4, ht4, T4⟩ := addY (a := t3) (b := bs (fmtI x4)) T3.out rfl (by (try simp only [List.length_append, List.length_cons, List.length_nil]); omega)
    obtain ⟨t5, ht5, T5⟩ := addY (a := t4) (b := { data := #[44] }) T4.out (show _ = bs [44] from rfl) (by (try simp only [List.length_append, List.length_cons, List.length_nil]); omega)
    obtain ⟨t6, ht6, T6⟩ := addY (a := t5) (b := bs (fmtI x5)) T5.out rfl (by (try simp only [List.length_append, List.length_cons, List.length_nil]); omega)
    have HST : Hid (t6 = bs (stepTx (x1, x2, x3, x4, x5))) := Lib.hid (by rw [T6.out]; unfold stepTx; dsimp only; rw [if_neg (by omega), if_neg (by omega), if_pos hkd])
    go_wp2_with (at_builtin; refine appS rfl (.tmp 60) (.tmp 71) rfl rfl HO5.out (stepTx (x1, x2, x3, x4, x5)) _ (by rw [HST.out]; rfl) rfl (by simp; omega) hbz ?_; intro v7 w7 h7 k7)
    go_roundw
    case rel => exact ⟨k + 1, by omega, by go_num, by rw [take_succ_of HX.out, List.map_append]; exact h7, hb5.trans (k7.setOwn HO5.out (Nat.le_refl _) hbz)⟩
    case measure => simp [intOf]; omega
   have kd0 : (x1 == (0 : Int)) = false := by simp <;> omega
   have kd1 : (x1 == (1 : Int)) = false := by simp <;> omega
   have kd2 : (x1 == (2 : Int)) = false := by simp <;> omega
   have HST : Hid (stepTx (x1, x2, x3, x4, x5) = [63]) := Lib.hid (by unfold stepTx; dsimp only; rw [if_neg (by omega), if_neg (by omega), if_neg (by omega)])
   go_wp2_with (at_builtin; refine appS rfl (.tmp 34) (.tmp 35) rfl rfl HO5.out (stepTx (x1, x2, x3, x4, x5)) _ (by rw [HST.out]; rfl) rfl (by simp; omega) hbz ?_; intro v7 w7 h7 k7)
   go_roundw
   case rel => exact ⟨k + 1, by omega, by go_num, by rw [take_succ_of HX.out, List.map_append]; exact h7, hb5.trans (k7.setOwn HO5.out (Nat.le_refl _) hbz)⟩
   case measure => simp [intOf]; omega
  ·obtain rfl : k = l.length := by omega
   have hki : decide ((l.length : Int) < (l.length : Int)) = false := by simp
   have ho := HO.out
   rw [List.take_length] at ho
   obtain ⟨g, cg, rfl, hg, hgb, hcs⟩ := ho.form (by simpa using hl0)
   have hlm : (l.map stepTx).length = l.length := List.length_map _
   have HG : Hid (Calls Tryz.prog 83 #[.slice (some ⟨g, 0, none⟩) l.length cg, .string { data := #[32] }] wr fun e w' => e = .returned (.string (bs (fmtSt l))) ∧ wr = w') := Lib.hid (by
    have h9 := glued_at wr g cg 90 (l.map stepTx) (fun j t ht => ⟨hcs j t ht, by
     obtain ⟨x, hx, rfl⟩ := List.mem_map.1 (List.mem_of_getElem? ht)
     exact HTL.out x hx⟩) { data := #[32] } [32] rfl (by rw [hlm]; simp only [List.length_cons, List.length_nil]; omega) (by rw [hlm]; exact hn)
    rw [hlm] at h9
    rwa [HE.out])
   simp only [hlm]
   clear ho hcs hlm
   go_wp2_with fail
   refine HG.out.mono ?_
   rintro e w7 ⟨rfl, rfl⟩
   go_wp2_with fail
   go_ret
   exact ⟨rfl, hb⟩
theorem impl_FormatSteps (W : World) (v : Value) (l : List StepT) (h : IsSteps W v l) (hn : l.length ≤ 1048576) (hok : OkSteps l) : Calls Tryz.prog 30 #[v] W fun e w' => e = .returned (.string (bs (fmtSt l))) ∧ Below W.heap.size W w' := by
 obtain ⟨a, cap, rfl, hi⟩ := h
 exact implFs_at _ _ _ _ hi hn hok
end Go.Proofs.YtfbmpkdjhhcnpaaGreat

