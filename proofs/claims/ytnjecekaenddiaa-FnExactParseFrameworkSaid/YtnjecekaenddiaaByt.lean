/- Numbers as texts: FormatInt of the reference and of the program. Condition: a 64-bit number. -/
import Derived.Test.YtnjecekaenddiaaOwn
import Derived.Laws.Concat
import Derived.Laws.IdiomStrings
import Derived.BigRegion
namespace Go.Proofs.Ytnjecekaenddiaa
open Go.RowKit
set_option maxRecDepth 100000
set_option linter.unusedVariables false
set_option linter.unusedSimpArgs false

theorem infoByte : (Try.prog.info? 5).map (fun i => (i.zero, i.size, i.bytes)) = some (some (.int .u8 0), 1, 1) := by kernel_rfl

/-- a text of these bytes -/
def bs (l : List UInt8) : ByteArray := ⟨l.toArray⟩
theorem bs_data (l : List UInt8) : (bs l).data.toList = l := rfl
theorem bs_size (l : List UInt8) : (bs l).size = l.length := by show l.toArray.size = _; simp
theorem bs_inj {l r : List UInt8} (h : bs l = bs r) : l = r := by rw [← bs_data l, h, bs_data]
theorem bs_of {s : ByteArray} {l : List UInt8} (h : s.data.toList = l) : s = bs l := by
  subst h; rfl
theorem bs_add (l r : List UInt8) : bs l ++ bs r = bs (l ++ r) := ByteArray.mk_append_mk l r
/-- the sum of two texts -/
theorem addS {l r : List UInt8} (h : l.length + r.length ≤ 9223372036854775807) : ∀ w, (Op.stringOp .add (bs l) (bs r)).run Try.prog w = .ok (.string (bs (l ++ r))) w := fun w => by
  rw [run_string_add_sum w _ _ (by rw [bs_size, bs_size]; exact h), bs_add]

/-- the digits of a number, the last one first -/
def dg (n : Nat) : List UInt8 := if h : n = 0 then [] else UInt8.ofNat (48 + n % 10) :: dg (n / 10)
termination_by n
theorem dg_zero : dg 0 = [] := by rw [dg]; rfl
theorem dg_pos {n : Nat} (h : n ≠ 0) : dg n = UInt8.ofNat (48 + n % 10) :: dg (n / 10) := by rw [dg, dif_neg h]
theorem dg_len : ∀ (k n : Nat), n < 10 ^ k → (dg n).length ≤ k
  | 0, n, h => by
    have : n = 0 := by simpa using h
    rw [this, dg_zero]; simp
  | k + 1, n, h => by
    by_cases h0 : n = 0
    · rw [h0, dg_zero]; simp
    · rw [dg_pos h0]
      have := dg_len k (n / 10) (by rw [Nat.pow_succ] at h; omega)
      simp; omega
def fmtI (n : Int) : List UInt8 := if n = 0 then [48] else if n < 0 then 45 :: (dg n.natAbs).reverse else (dg n.natAbs).reverse
theorem fmtI_len {n : Int} (h1 : -9223372036854775808 ≤ n) (h2 : n ≤ 9223372036854775807) : (fmtI n).length ≤ 21 := by
  have := dg_len 20 n.natAbs (by omega)
  unfold fmtI
  split
  · simp
  · split
    · simp; omega
    · simp; omega
theorem chr_nat {n : Nat} : (UInt8.ofNat (48 + n % 10)).toNat = 48 + n % 10 := by
  rw [UInt8.toNat_ofNat']; omega

def byteC (b : UInt8) : Value := .int .u8 (b.toNat : Int)
/-- a slice of bytes of the call's own -/
def OwnB (W : World) (base : Nat) (v : Value) (l : List UInt8) : Prop := W.ownsRow base 5 1 v l.length (l.map byteC)
theorem OwnB.made (W : World) (base : Nat) (h : base ≤ W.heap.size) : OwnB (W.alloc (.cells #[] 5)) base (.slice (some ⟨W.heap.size, 0, none⟩) 0 0) [] :=
  World.ownsRow_made W #[] 0 h (Nat.zero_le _) rfl
theorem OwnB.below {W W' : World} {base : Nat} {v : Value} {l : List UInt8} (h : OwnB W base v l) (hb : Below W.heap.size W W') : OwnB W' base v l := Below.ownsRow hb h
/-- 'append(s, c)' of one byte, s the call's own -/
theorem appB {w : World} {ops : Array Oper} {rest : List Oper} {o : Oper} {a : Act} {Q : Exit → Act → World → Prop} (hg : o.guard = none) (s x : Operand)
    (ho : o.op = .call { callee := .builtin .append, args := #[s, x], argTypes := #[90, 90] }) {base : Nat} {v : Value} {l : List UInt8} (hs : a.eval s = v) (hown : OwnB w base v l) (c : UInt8) (y : Value) (hy : y = byteC c)
    (hx : a.eval x = .slice (some ⟨w.heap.size, 0, none⟩) 1 1) (hl : l.length < 17592186044416) (hbase : base ≤ w.heap.size)
    (hK : ∀ v' w', OwnB w' base v' (l ++ [c]) → Kept (fun k => some k = v.ownBlock) w w' → wpList Try.prog ops Q rest (a.put o.dst v') w') :
    wpList Try.prog ops Q (o :: rest) a (w.alloc (.cells #[y] 5)) := by
  subst hy
  obtain ⟨i0, hi, hz0, hz1, hz2⟩ := info_parts infoByte
  refine wpList_append_own _ hg s x 90 ho base 5 i0 (.int .u8 0) 1 1 Try.underlying90 hi hz0 hz1 hz2 rfl (by decide) v l.length (l.map byteC) hs (World.ownsRow.alloc hown _) ⟨w.heap.size, 0, none⟩ 1 1 [byteC c] hx rfl ?_ ?_ ?_ ?_ ?_ ?_
  · intro j u hu
    have hj : j = 0 := by have := lt_of_getElem? hu; simp at this; omega
    subst hj
    simp at hu
    subst hu
    simp [Addr.add, World.cell?_alloc_new]
  · intro u hu
    simp at hu
    subst hu
    rfl
  · unfold maxLen; omega
  · omega
  · simp; omega
  · intro v' w' h1 h2 _
    refine hK v' w' (by unfold OwnB; simpa using h1) ?_
    exact (Kept.of_below ((Below.refl _ _).alloc (Nat.le_refl _) _)).trans ⟨h2.os, h2.tape, h2.output, h2.size, fun k hk hs => h2.block k hk hs⟩
theorem OwnB.form {W : World} {base : Nat} {v : Value} {l : List UInt8} (h : OwnB W base v l) (hn : 0 < l.length) : ∃ g cap, v = .slice (some ⟨g, 0, none⟩) l.length cap ∧ g < W.heap.size ∧ base ≤ g ∧ (∀ j c, l[j]? = some c → W.cell? ⟨g, j, none⟩ = some (byteC c)) ∧ ∀ j, W.frozen? ⟨g, j, none⟩ = false := by
  have h2 := h
  rcases h.2 with ⟨rfl, h0⟩ | ⟨g, cap, cur, rfl, hb, hg, _⟩
  · omega
  · refine ⟨g, cap, rfl, (Array.getElem?_eq_some_iff.1 hg).1, hb, fun j c hj => ?_, fun j => World.ownsRow.frozenAt h2 j⟩
    have hjl := lt_of_getElem? hj
    rw [World.ownsRow.cellAt h2 j (by omega)]
    simp [hj]
theorem OwnB.set {W : World} {base g cap : Nat} {l : List UInt8} (h : OwnB W base (.slice (some ⟨g, 0, none⟩) l.length cap) l) (j : Nat) (c : UInt8) : OwnB (W.setCell ⟨g, j, none⟩ (byteC c)) base (.slice (some ⟨g, 0, none⟩) l.length cap) (l.set j c) := by
  have h2 := World.ownsRow.stored h j (byteC c)
  unfold OwnB
  rw [List.length_set, List.map_set]
  exact h2.1
/-- a text out of bytes -/
theorem backS {w : World} {g cap : Nat} {l : List UInt8} (hc : ∀ j c, l[j]? = some c → w.cell? ⟨g, j, none⟩ = some (byteC c)) : (convert 90 9 (.slice (some ⟨g, 0, none⟩) l.length cap)).run Try.prog w = .ok (.string (bs l)) w :=
  run_convert_bytes_back w _ _ 5 ⟨g, 0, none⟩ cap l Try.underlying90 Try.underlying5 Try.underlying9 fun j hj => by
    rw [Addr.add_lit, Nat.zero_add]
    exact hc j _ (List.getElem?_eq_getElem hj)

theorem tmod_neg (m : Nat) : Int.tmod (-(m : Int)) 10 = -((m % 10 : Nat) : Int) := by
  rw [Int.neg_tmod]; rfl
theorem tdiv_neg (m : Nat) : Int.tdiv (-(m : Int)) 10 = -((m / 10 : Nat) : Int) := by
  rw [Int.neg_tdiv]; rfl
theorem tmod_pos (m : Nat) : Int.tmod (m : Int) 10 = ((m % 10 : Nat) : Int) := rfl
theorem tdiv_pos (m : Nat) : Int.tdiv (m : Int) 10 = ((m / 10 : Nat) : Int) := rfl
/-- a number with a sign -/
def sgn (neg : Bool) (m : Nat) : Int := if neg then -(m : Int) else m
/-- what is left of m behind these digits -/
theorem dg_step {N m : Nat} {o : List UInt8} (h : o ++ dg m = dg N) (hm : m ≠ 0) : (o ++ [UInt8.ofNat (48 + m % 10)]) ++ dg (m / 10) = dg N := by
  rw [← h, dg_pos hm]; simp
end Go.Proofs.Ytnjecekaenddiaa
