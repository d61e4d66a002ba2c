/- Base: the class of worlds that are as W was below W's size; regions that draw their order, walked once over that class; the comparisons 'within' and 'l1In'. No condition. -/
import Derived.Test.YtfbmpkdjhhcnpaaGreatRows
import Derived.WalkKit
import Derived.WalkSpells
import Derived.WalkLawsBesides
import Derived.Deep.QuietTactic
import Derived.BigQuiet
import Derived.Deep.RegionHeld3
import Derived.Deep.DeepCutAuto
import Derived.Deep.LoopGhost
import Derived.StillTailTactics
import Derived.Lib.Hide
import Derived.Deep.AppendLies
import Derived.Laws.MakeOwn
import Derived.Laws.CopyOwn
import Derived.WalkSmall
import Derived.Handy
import Derived.IntWalk
import Derived.Deep.RegionLawGrows
import Derived.ProofKit
import Derived.OpenShut
namespace Go.Proofs.YtfbmpkdjhhcnpaaGreat
open Go.RowKit
set_option maxRecDepth 100000
set_option linter.unusedVariables false
set_option linter.unusedSimpArgs false

theorem _root_.Go.RowKit.Below.step {W w1 w2 : World} (h : Below W.heap.size W w1) (h2 : Below w1.heap.size w1 w2) : Below W.heap.size W w2 := h.trans (h2.mono h.size)

theorem bcell {W w1 : World} (hb : Below W.heap.size W w1) : (∀ b o, b < W.heap.size → w1.cell? ⟨b, o, none⟩ = W.cell? ⟨b, o, none⟩) ∧ (∀ b o, b < W.heap.size → w1.frozen? ⟨b, o, none⟩ = W.frozen? ⟨b, o, none⟩) :=
 ⟨fun b o h => hb.cell (p := ⟨b, o, none⟩) h, fun b o h => hb.frozen (p := ⟨b, o, none⟩) h⟩

structure Wd (W : World) where
 w : World
 h : Below W.heap.size W w
instance Wd.inst (W : World) : Nonempty (Wd W) := ⟨⟨W, Below.refl _ _⟩⟩

theorem Wd.cells {W : World} (n : Wd W) (b o : Nat) (h : b < W.heap.size) : n.w.cell? ⟨b, o, none⟩ = W.cell? ⟨b, o, none⟩ := n.h.cell (p := ⟨b, o, none⟩) h

theorem wp_region_wd {P : Program} {id : Nat} {Q : Exit → Act → World → Prop} {a : Act} {w : World} {l : List Oper} (hm : P.follows .mixedOrders = true) (hB : Region.lexB .any l.toArray = true)
  (h : wpQuiet P l.toArray (fun w' => ∃ n : Wd w, w' = n.w) (fun a' => ∀ n : Wd w, Q .normal a' n.w) l a) : (Code.region id l.toArray true).wp P Q a w :=
 wp_region_quiet (C := fun w' => ∃ n : Wd w, w' = n.w) hm hB ⟨⟨_, (Below.refl _ _).drew⟩, rfl⟩ (by
  have e : (fun a' => ∀ n : Wd w, Q .normal a' n.w) = (fun a' => ∀ w', (∃ n : Wd w, w' = n.w) → Q .normal a' w') := by
   funext a'; apply propext; constructor
   ·rintro h w' ⟨n, rfl⟩; exact h n
   ·intro h n; exact h _ ⟨n, rfl⟩
  rw [e] at h; simpa using h)

theorem _root_.Go.Calls.wd_of {P : Program} {f : FuncId} {args : Array Value} {W : World} {n : Wd W} {v : Value}
  (h : Calls P f args n.w fun e w' => e = .returned v ∧ Below n.w.heap.size n.w w') : Calls P f args n.w fun e w'' => e = .returned v ∧ ∃ m : Wd W, w'' = m.w :=
 h.mono fun _ _ ⟨he, hb⟩ => ⟨he, ⟨_, n.h.step hb⟩, rfl⟩

def inB (x lo hi : Int) : Bool := decide (lo ≤ x) && decide (x ≤ hi)

set_option maxHeartbeats 400000 in
theorem within_any (x lo hi : Int) (w : World) :
  Calls Tryz.prog 47 #[.int .i64 x, .int .i64 lo, .int .i64 hi] w fun e w' => e = .returned (.bool (inB x lo hi)) ∧ w = w' := by
 by_cases h1 : lo ≤ x <;> by_cases h2 : x ≤ hi
 all_goals
  go_enter Tryz.func47, Tryz.ntmps47
  go_wp2
  go_ret
  exact ⟨by simp [inB, h1, h2], rfl⟩

set_option maxHeartbeats 400000 in
theorem l1In_any (x lo hi : Int) (w : World) :
  Calls Tryz.prog 52 #[.int .i64 x, .int .i64 lo, .int .i64 hi] w fun e w' => e = .returned (.bool (inB x lo hi)) ∧ w = w' := by
 by_cases h1 : lo ≤ x <;> by_cases h2 : x ≤ hi
 all_goals
  go_enter Tryz.func52, Tryz.ntmps52
  go_wp2
  go_ret
  exact ⟨by simp [inB, h1, h2], rfl⟩



theorem infoInt : (Tryz.prog.info? 3).map (fun i => (i.zero, i.size, i.bytes)) = some (some (.int .i64 0), 1, 8) := by kernel_rfl

structure Kept (S : Nat → Prop) (w w' : World) : Prop where
 os : w'.os = w.os
 tape : w'.tape = w.tape
 output : w'.output = w.output
 size : w.heap.size ≤ w'.heap.size
 block : ∀ k, k < w.heap.size → ¬ S k → w'.heap[k]? = w.heap[k]?

theorem Kept.refl (S : Nat → Prop) (w : World) : Kept S w w := ⟨rfl, rfl, rfl, Nat.le_refl _, fun _ _ _ => rfl⟩
theorem Kept.trans {S : Nat → Prop} {a b c : World} (h : Kept S a b) (k : Kept S b c) : Kept S a c :=
 ⟨k.os.trans h.os, k.tape.trans h.tape, k.output.trans h.output, Nat.le_trans h.size k.size, fun i hi hs => (k.block i (Nat.lt_of_lt_of_le hi h.size) hs).trans (h.block i hi hs)⟩
theorem Kept.mono {S S' : Nat → Prop} {w w' : World} (h : Kept S w w') (hS : ∀ k, k < w.heap.size → S k → S' k) : Kept S' w w' := ⟨h.os, h.tape, h.output, h.size, fun k hk hs => h.block k hk fun h' => hs (hS k hk h')⟩
theorem Kept.of_below {S : Nat → Prop} {w w' : World} (h : Below w.heap.size w w') : Kept S w w' := ⟨h.os, h.tape, h.output, h.size, fun k hk _ => h.block k hk⟩
theorem Kept.of_grown {w w' : World} {row : Option Nat} (h : w.grownBy w' row) : Kept (fun k => some k = row) w w' := ⟨h.os, h.tape, h.output, h.size, fun k hk hs => h.block k hk hs⟩
theorem Kept.below {S : Nat → Prop} {B : Nat} {w w' : World} (h : Kept S w w') (hB : B ≤ w.heap.size) (hS : ∀ k, k < B → ¬ S k) : Below B w w' := ⟨h.os, h.tape, h.output, h.size, fun k hk => h.block k (by omega) (hS k hk)⟩
theorem Kept.ownsRow {S : Nat → Prop} {w w' : World} {base : Nat} {e : TypeId} {size : Nat} {v : Value} {n : Nat} {xs : List Value} (hg : Kept S w w') (h : w.ownsRow base e size v n xs) (hne : ∀ k, v.ownBlock = some k → ¬ S k) : w'.ownsRow base e size v n xs := by
 refine ⟨h.1, ?_⟩
 rcases h.2 with hn | ⟨g, cap, cur, rfl, hb, hgg, rest⟩
 ·exact .inl hn
 ·refine .inr ⟨g, cap, cur, rfl, hb, ?_, rest⟩
  rw [hg.block g (Array.getElem?_eq_some_iff.1 hgg).1 (hne g rfl)]
  exact hgg
theorem Below.ownsRow {w w' : World} {base : Nat} {e : TypeId} {size : Nat} {v : Value} {n : Nat} {xs : List Value} (hg : Below w.heap.size w w') (h : w.ownsRow base e size v n xs) : w'.ownsRow base e size v n xs :=
 (Kept.of_below (S := fun _ => False) hg).ownsRow h fun _ _ => id
theorem ownsRow_base {w : World} {base base' : Nat} {e : TypeId} {size : Nat} {v : Value} {n : Nat} {xs : List Value} (h : w.ownsRow base e size v n xs) (hb : base' ≤ base) : w.ownsRow base' e size v n xs := by
 refine ⟨h.1, ?_⟩
 rcases h.2 with hn | ⟨g, cap, cur, rfl, hb', r⟩
 ·exact .inl hn
 ·exact .inr ⟨g, cap, cur, rfl, by omega, r⟩
theorem Below.of_grown_none {w w' : World} (h : w.grownBy w' none) : Below w.heap.size w w' := ⟨h.os, h.tape, h.output, h.size, fun k hk => h.block k hk (by simp)⟩

theorem take_succ_of {α : Type} {l : List α} {k : Nat} {x : α} (h : l[k]? = some x) : l.take (k + 1) = l.take k ++ [x] := by
 obtain ⟨hk, rfl⟩ := List.getElem?_eq_some_iff.1 h
 rw [List.take_succ_eq_append_getElem hk]
theorem lt_of_getElem? {α : Type} {l : List α} {k : Nat} {x : α} (h : l[k]? = some x) : k < l.length := (List.getElem?_eq_some_iff.1 h).1
def IntsAt (W : World) (a : Option Addr) (n : Nat) (l : List Int) : Prop :=
 l.length = n ∧ ∀ k, k < n → ∃ b off x, a = some ⟨b, off, none⟩ ∧ b < W.heap.size ∧ l[k]? = some x ∧ W.cell? ⟨b, off + k, none⟩ = some (.int .i64 x)

theorem IntsAt.kept {S : Nat → Prop} {W W' : World} {a : Option Addr} {n : Nat} {l : List Int} (h : IntsAt W a n l) (hk : Kept S W W') (hne : ∀ b off, a = some ⟨b, off, none⟩ → ¬ S b) : IntsAt W' a n l :=
 ⟨h.1, fun k hkn => by
  obtain ⟨b, off, x, ha, hb, hx, hc⟩ := h.2 k hkn
  exact ⟨b, off, x, ha, Nat.lt_of_lt_of_le hb hk.size, hx, (World.cell?_of_block (w := W) (a := ⟨b, off + k, none⟩) (hk.block b hb (hne b off ha))).trans hc⟩⟩
theorem IntsAt.below {W W' : World} {a : Option Addr} {n : Nat} {l : List Int} (h : IntsAt W a n l) (hk : Below W.heap.size W W') : IntsAt W' a n l := h.kept (Kept.of_below (S := fun _ => False) hk) fun _ _ _ => id

def OwnInts (W : World) (base : Nat) (v : Value) (l : List Int) : Prop := W.ownsRow base 3 1 v l.length (l.map (Value.int .i64))

theorem OwnInts.form {W : World} {base : Nat} {v : Value} {l : List Int} (h : OwnInts W base v l) : ∃ a cap, v = .slice a l.length cap ∧ IntsAt W a l.length l := by
 rcases h.2 with ⟨rfl, h0⟩ | ⟨g, cap, cur, rfl, hb, hg, hnc, hcm, hcs, htake⟩
 ·exact ⟨none, 0, by rw [h0], rfl, fun k hk => by omega⟩
 ·refine ⟨_, cap, rfl, rfl, fun k hk => ⟨g, 0, l[k], rfl, (Array.getElem?_eq_some_iff.1 hg).1, by simp [hk], ?_⟩⟩
  have := World.ownsRow.cellAt (w := W) (base := base) h k (by omega)
  simpa [hk] using this

theorem OwnInts.lt {W : World} {base : Nat} {v : Value} {l : List Int} (h : OwnInts W base v l) : ∀ k, v.ownBlock = some k → base ≤ k ∧ k < W.heap.size := World.ownsRow.lt h

def RetInts (W : World) (l : List Int) (e : Ending) (w' : World) : Prop := ∃ v, e = .returned v ∧ OwnInts w' W.heap.size v l ∧ Below W.heap.size W w'

theorem Kept.setOwn {w w' : World} {v : Value} {base : Nat} (h : Kept (fun k => some k = v.ownBlock) w w') {e : TypeId} {size n : Nat} {xs : List Value} (ho : w.ownsRow base e size v n xs) {B : Nat} (hB : B ≤ base) (hs : B ≤ w.heap.size) : Below B w w' :=
 h.below hs fun k hk hkk => by have := (World.ownsRow.lt ho k hkk.symm).1; omega

theorem app1 {w : World} {ops : Array Oper} {rest : List Oper} {o : Oper} {a : Act} {Q : Exit → Act → World → Prop} (hg : o.guard = none) (s x : Operand)
  (ho : o.op = .call { callee := .builtin .append, args := #[s, x], argTypes := #[35, 35] }) {base : Nat} {v : Value} {l : List Int} (hs : a.eval s = v) (hown : OwnInts w base v l) (y : Int)
  (hx : a.eval x = .slice (some ⟨w.heap.size, 0, none⟩) 1 1) (hl : l.length < 17592186044416) (hbase : base ≤ w.heap.size)
  (hK : ∀ v' w', OwnInts w' base v' (l ++ [y]) → Kept (fun k => some k = v.ownBlock) w w' → wpList Tryz.prog ops Q rest (a.put o.dst v') w') :
  wpList Tryz.prog ops Q (o :: rest) a (w.alloc (.cells #[.int .i64 y] 3)) := by
 obtain ⟨i0, hi, hz0, hz1, hz2⟩ := info_parts infoInt
 refine wpList_append_own _ hg s x 35 ho base 3 i0 (.int .i64 0) 1 8 Tryz.underlying35 hi hz0 hz1 hz2 rfl (by decide) v l.length (l.map (Value.int .i64)) hs (World.ownsRow.alloc hown _) ⟨w.heap.size, 0, none⟩ 1 1 [.int .i64 y] hx rfl ?_ ?_ ?_ ?_ ?_ ?_
 ·intro j u hu
  have hj : j = 0 := by have := lt_of_getElem? hu; simp at this; omega
  subst hj
  simp at hu
  subst hu
  simp [Addr.add, World.cell?_alloc_new]
 ·intro u hu
  simp at hu
  subst hu
  rfl
 ·unfold maxLen; omega
 ·omega
 ·simp; omega
 ·intro v' w' h1 h2 _
  refine hK v' w' (by unfold OwnInts; simpa using h1) ?_
  exact (Kept.of_below ((Below.refl _ _).alloc (Nat.le_refl _) _)).trans ⟨h2.os, h2.tape, h2.output, h2.size, fun k hk hs => h2.block k hk hs⟩

theorem OwnInts.nil (W : World) (base : Nat) : OwnInts W base (.slice none 0 0) [] := World.ownsRow_nil W base _ _
theorem OwnInts.made (W : World) (base : Nat) (h : base ≤ W.heap.size) : OwnInts (W.alloc (.cells #[] 3)) base (.slice (some ⟨W.heap.size, 0, none⟩) 0 0) [] :=
 World.ownsRow_made W #[] 0 h (Nat.zero_le _) rfl


theorem OwnInts.below {W W' : World} {base : Nat} {v : Value} {l : List Int} (h : OwnInts W base v l) (hb : Below W.heap.size W W') : OwnInts W' base v l := Below.ownsRow hb h
theorem own_ne {w w' : World} {b b' : Nat} {e e' : TypeId} {s s' n n' : Nat} {v v' : Value} {xs xs' : List Value} (h : w.ownsRow b e s v n xs) (h' : w'.ownsRow b' e' s' v' n' xs') (hb : w.heap.size ≤ b') : ∀ k, v.ownBlock = some k → v'.ownBlock ≠ some k := by
 intro k hk hk'
 have h1 := (World.ownsRow.lt h k hk).2
 have h2 := (World.ownsRow.lt h' k hk').1
 omega
def IsInts (W : World) (v : Value) (l : List Int) : Prop := ∃ a cap, v = .slice a l.length cap ∧ IntsAt W a l.length l
theorem IsInts.below {W W' : World} {v : Value} {l : List Int} (h : IsInts W v l) (hb : Below W.heap.size W W') : IsInts W' v l := by
 obtain ⟨a, cap, rfl, hi⟩ := h
 exact ⟨a, cap, rfl, hi.below hb⟩
theorem ret_int {k : IntKind} {a b : Int} (h : a = b) : Ending.returned (.int k a) = .returned (.int k b) := by rw [h]
theorem ret_bool {a b : Bool} (h : a = b) : Ending.returned (.bool a) = .returned (.bool b) := by rw [h]

theorem ownInts_set {W : World} {base g n cap k : Nat} {l : List Int} {x : Int} (h : W.ownsRow base 3 1 (.slice (some ⟨g, 0, none⟩) n cap) n (l.map (Value.int .i64))) :
  (W.setCell ⟨g, k, none⟩ (.int .i64 x)).ownsRow base 3 1 (.slice (some ⟨g, 0, none⟩) n cap) n ((l.set k x).map (Value.int .i64)) := by
 have h2 := (World.ownsRow.stored h k (.int .i64 x)).1
 rwa [List.map_set]

/-! ### The same, said of values: what a law's walk uses -/
end Go.Proofs.YtfbmpkdjhhcnpaaGreat

namespace Go.Proofs.YtfbmpkdjhhcnpaaGreat
open Go.ChangeShapes Go.WideShapes Go.ChangeAt Go.RowKit
set_option maxRecDepth 100000


theorem addr_add (b off k : Nat) : (⟨b, off, none⟩ : Addr).add k = ⟨b, off + k, none⟩ := Addr.add_lit _ _ _

end Go.Proofs.YtfbmpkdjhhcnpaaGreat

namespace Go.Proofs.YtfbmpkdjhhcnpaaGreat
open Go.ChangeShapes Go.WideShapes Go.ChangeAt Go.RowKit
set_option maxRecDepth 100000
def BytesAt (W : World) (a : Option Addr) (n : Nat) (l : List Int) : Prop :=
 l.length = n ∧ ∀ k, k < n → ∃ b off x, a = some ⟨b, off, none⟩ ∧ b < W.heap.size ∧ l[k]? = some x ∧ W.cell? ⟨b, off + k, none⟩ = some (.int .u8 x) ∧ 0 ≤ x ∧ x ≤ 255
theorem BytesAt.below {W W' : World} {a : Option Addr} {n : Nat} {l : List Int} (h : BytesAt W a n l) (hk : Below W.heap.size W W') : BytesAt W' a n l :=
 ⟨h.1, fun k hkn => by
  obtain ⟨b, off, x, h1, h2, h3, h4, h5⟩ := h.2 k hkn
  exact ⟨b, off, x, h1, Nat.lt_of_lt_of_le h2 hk.size, h3, (hk.cell (p := ⟨b, off + k, none⟩) h2).trans h4, h5⟩⟩
def IsBytes (W : World) (v : Value) (l : List Int) : Prop := ∃ a cap, v = .slice a l.length cap ∧ BytesAt W a l.length l
def OkBytes (l : List Int) : Prop := l.length ≤ 9223372036854775807
theorem rd_bytes {H : Type} {enc : TypeId × Value → H} {W : World} {b0 base : Nat} {spare : Nat → Bool} {held : Bool} {r : Reach} {v : Value} {d : DataW H} {p : List MemPlace}
  (hv : Value.okWide Tryz.prog W r b0 22 v) (h : DataW.Trod enc Tryz.prog W base spare held 22 v d p) : ∃ x, IsBytes W v x ∧ OkBytes x := by
 obtain ⟨a0, len0, cap0, rfl⟩ := okWide_slice Tryz.underlying22 hv
 obtain ⟨fuel, hf⟩ := h
 rcases open_ints Tryz.underlying22 Tryz.underlying5 (by kernel_rfl) hf with ⟨hcs, _⟩ | ⟨x, l, c, zs, hcs, _, hl, hm, hz, _, hcell, hwz⟩
 ·simp [Value.cells] at hcs
  obtain ⟨rfl, rfl, rfl⟩ := hcs
  exact ⟨[], ⟨none, 0, rfl, rfl, fun k hk => absurd hk (Nat.not_lt_zero _)⟩, by simp [OkBytes]⟩
 ·simp [Value.cells] at hcs
  obtain ⟨rfl, rfl, rfl⟩ := hcs
  have hzl : len0 ≤ zs.length := by rw [hz]; split <;> omega
  have hll : (zs.take len0).length = len0 := by simp; omega
  suffices hI : BytesAt W (some x) len0 (zs.take len0) from ⟨zs.take len0, ⟨some x, cap0, by rw [hll], by rw [hll]; exact hI⟩, by unfold OkBytes; unfold maxLen at hm; omega⟩
  refine ⟨hll, fun k hk => ?_⟩
  have hc := hcell k (by omega)
  obtain ⟨b, off, spot⟩ := x
  have hspot : spot = none := by simpa [Addr.add] using World.cell?_spot (hcell 0 (by omega))
  subst hspot
  rw [addr_add] at hc
  have hb8 := bounds_u8 (hwz (zs[k]'(by omega)) (List.getElem_mem _))
  refine ⟨b, off, zs[k]'(by omega), rfl, World.block_lt_of_cell? W _ hc, ?_, ?_, hb8⟩
  ·rw [List.getElem?_take, if_pos hk]
   exact List.getElem?_eq_getElem _
  ·rw [hc]
   simp [List.getD, show k < zs.length by omega]

section flat
variable {α β : Type} {f : Nat} {c : α → List β}
theorem flat_take (hc : ∀ a, (c a).length = f) (l : List α) (k : Nat) : (l.flatMap c).take (k * f) = (l.take k).flatMap c := by
 induction l generalizing k with
 | nil => simp
 | cons a l ih =>
  cases k with
  | zero => simp
  | succ k =>
   rw [List.flatMap_cons, List.take_append, List.take_of_length_le (by rw [hc, Nat.succ_mul]; omega), hc, Nat.succ_mul, Nat.add_sub_cancel, ih]
   simp
theorem flat_drop (hc : ∀ a, (c a).length = f) (l : List α) (k : Nat) : (l.flatMap c).drop (k * f) = (l.drop k).flatMap c := by
 induction l generalizing k with
 | nil => simp
 | cons a l ih =>
  cases k with
  | zero => simp
  | succ k =>
   rw [List.flatMap_cons, List.drop_append, List.drop_of_length_le (by rw [hc, Nat.succ_mul]; omega), hc, Nat.succ_mul, Nat.add_sub_cancel, ih]
   simp
theorem flat_get (hc : ∀ a, (c a).length = f) {l : List α} {k j : Nat} {a : α} (h : l[k]? = some a) (hj : j < f) : (l.flatMap c)[k * f + j]? = (c a)[j]? := by
 rw [← List.getElem?_drop, flat_drop hc]
 obtain ⟨hk, rfl⟩ := List.getElem?_eq_some_iff.1 h
 rw [List.drop_eq_getElem_cons hk, List.flatMap_cons, List.getElem?_append_left (by rw [hc]; exact hj)]
end flat

end Go.Proofs.YtfbmpkdjhhcnpaaGreat

