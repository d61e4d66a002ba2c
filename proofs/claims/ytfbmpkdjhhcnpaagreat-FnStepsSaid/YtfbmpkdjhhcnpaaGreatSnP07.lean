/- Sets of bars: slices.Contains on ints, isSet of the program, l5Set of the reference. No condition but sizes. -/
import Derived.Test.YtfbmpkdjhhcnpaaGreatSnP06
import Derived.Test.YtfbmpkdjhhcnpaaGreatSnP01
import Derived.Deep.QuietTactic
import Derived.BigQuiet
import Derived.Test.YtfbmpkdjhhcnpaaGreatSnP02
import Derived.Deep.RegionLaw
import Derived.Maps.AppendAt
namespace Go.Proofs.YtfbmpkdjhhcnpaaGreat
open Go.RowKit
set_option maxRecDepth 100000
set_option linter.unusedVariables false
set_option linter.unusedSimpArgs false

def BoxGr (w : World) (g : Nat) (p : Int) (a : Option Addr) (n cap : Nat) : Prop := g < w.heap.size ∧ w.cell? ⟨g, 0, none⟩ = some (.int .i64 p) ∧ w.cell? ⟨g, 1, none⟩ = some (.slice a n cap)
theorem BoxGr.below {w w' : World} {g : Nat} {p : Int} {a : Option Addr} {n cap : Nat} (h : BoxGr w g p a n cap) (hb : Below w.heap.size w w') : BoxGr w' g p a n cap :=
 ⟨Nat.lt_of_lt_of_le h.1 hb.size, ((bcell hb).1 _ _ h.1).trans h.2.1, ((bcell hb).1 _ _ h.1).trans h.2.2⟩
theorem BoxGr.kept {S : Nat → Prop} {w w' : World} {g : Nat} {p : Int} {a : Option Addr} {n cap : Nat} (h : BoxGr w g p a n cap) (hk : Kept S w w') (hs : ¬ S g) : BoxGr w' g p a n cap := by
 have hb : ∀ o, w'.cell? ⟨g, o, none⟩ = w.cell? ⟨g, o, none⟩ := fun o => by simp only [World.cell?, hk.block g h.1 hs]
 exact ⟨Nat.lt_of_lt_of_le h.1 hk.size, (hb _).trans h.2.1, (hb _).trans h.2.2⟩
theorem BoxGr.at {w : World} {g : Nat} {p : Int} {a : Option Addr} {n cap ty : Nat} (hg : g = w.heap.size) : BoxGr (w.alloc (.cells #[.int .i64 p, .slice a n cap] ty)) g p a n cap := by
 subst hg
 exact ⟨by simp, by simp [World.cell?_alloc_new], by simp [World.cell?_alloc_new]⟩
theorem BoxGr.c0 {w : World} {g : Nat} {p : Int} {a : Option Addr} {n cap : Nat} (h : BoxGr w g p a n cap) : w.cell? ⟨g, 0, none⟩ = some (.int .i64 p) := h.2.1
theorem BoxGr.c1 {w : World} {g : Nat} {p : Int} {a : Option Addr} {n cap : Nat} (h : BoxGr w g p a n cap) : w.cell? ⟨g, 1, none⟩ = some (.slice a n cap) := h.2.2
def idxI (s : List Int) (x : Int) : Int := if x ∈ s then (s.idxOf x : Int) else -1
theorem idxI_at {s : List Int} {x : Int} {k : Nat} (h : s[k]? = some x) (hn : x ∉ s.take k) : idxI s x = k := by
 have hm := List.mem_of_getElem? h
 have hk := lt_of_getElem? h
 unfold idxI
 rw [if_pos hm]
 have h1 : s.idxOf x = k := by
  have e : s = s.take k ++ s.drop k := (List.take_append_drop k s).symm
  rw [e, List.idxOf_append, if_neg hn, List.length_take, Nat.min_eq_left (by omega), List.drop_eq_getElem_cons hk, (List.getElem?_eq_some_iff.1 h).2]
  simp
 rw [h1]
theorem notMem_snoc {s : List Int} {x y : Int} {k : Nat} (h : x ∉ s.take k) (hy : s[k]? = some y) (hne : x ≠ y) : x ∉ s.take (k + 1) := by
 rw [take_succ_of hy]
 simp only [List.mem_append, List.mem_singleton]
 rintro (h1 | h1)
 ·exact h h1
 ·exact hne h1

set_option maxHeartbeats 1000000 in
theorem indexI_at (W : World) (a : Option Addr) (n cap : Nat) (s : List Int) (h : IntsAt W a n s) (hn : n ≤ 1099511627776) (x : Int) :
  Calls Tryz.prog 144 #[.slice a n cap, .int .i64 x] W fun e w' => e = .returned (.int .i64 (idxI s x)) ∧ W = w' := by
 have HL := Lib.hid h.1
 have HC := Lib.hid h.2
 clear h
 go_enter Tryz.func144, Tryz.ntmps144
 go_wp2_with fail
 go_loop [8] (fun i => ∃ k : Nat, k ≤ n ∧ i = .int .i64 k ∧ x ∉ s.take k) (fun i => n - (intOf i).toNat)
 case atStart => exact ⟨0, Nat.zero_le _, rfl, by simp⟩
 case round =>
  obtain ⟨k, hk, rfl, hnm⟩ := hrel
  have HN := Lib.hid hnm
  clear hnm
  by_cases hlt : k < n
  ·obtain ⟨b, off, y, rfl, hbl, hx, hcell⟩ := HC.out k hlt
   have HX := Lib.hid hx
   clear hx
   by_cases hxy : x = y
   ·subst hxy
    have HE := Lib.hid (idxI_at HX.out HN.out)
    go_wp2_with fail
    go_ret
    exact ⟨by rw [HE.out]; rfl, rfl⟩
   ·have hb : (x == y) = false := by rw [beq_eq_false_iff_ne]; exact hxy
    go_wp2_with fail
    go_round
    case rel => exact ⟨k + 1, by omega, by go_num, notMem_snoc HN.out HX.out hxy⟩
    case measure => simp [intOf]; omega
  ·obtain rfl : k = n := by omega
   have HE := Lib.hid (show idxI s x = -1 by
    have h1 := HN.out
    rw [List.take_of_length_le (by have := HL.out; omega)] at h1
    unfold idxI; rw [if_neg h1])
   go_wp2_with fail
   go_ret
   exact ⟨by rw [HE.out]; rfl, rfl⟩
theorem idxI_ge (s : List Int) (x : Int) : decide (0 ≤ idxI s x) = decide (x ∈ s) := by
 unfold idxI
 by_cases h : x ∈ s
 ·rw [if_pos h]; simp [h]
 ·rw [if_neg h]; simp [h]
set_option maxHeartbeats 1000000 in
theorem containsI_at (W : World) (a : Option Addr) (n cap : Nat) (s : List Int) (h : IntsAt W a n s) (hn : n ≤ 1099511627776) (x : Int) :
  Calls Tryz.prog 112 #[.slice a n cap, .int .i64 x] W fun e w' => e = .returned (.bool (decide (x ∈ s))) ∧ W = w' := by
 have HE := Lib.hid (idxI_ge s x)
 have HH := Lib.hid h
 clear h
 generalize hI : idxI s x = I at *
 have HI := Lib.hid hI
 clear hI
 go_enter Tryz.func112, Tryz.ntmps112
 go_wp2_with (go_at_call 144; refine (indexI_at _ _ _ _ _ HH.out hn _).mono ?_; rintro e w1 ⟨rfl, rfl⟩; rw [HI.out])
 go_ret
 exact ⟨by rw [← HE.out]; rfl, rfl⟩
set_option maxHeartbeats 1000000 in
theorem l2Has_at (W : World) (a : Option Addr) (n cap : Nat) (s : List Int) (h : IntsAt W a n s) (hn : n ≤ 1099511627776) (x : Int) :
  Calls Tryz.prog 73 #[.slice a n cap, .int .i64 x] W fun e w' => e = .returned (.bool (decide (x ∈ s))) ∧ W = w' := by
 have HL := Lib.hid h.1
 have HC := Lib.hid h.2
 clear h
 go_enter Tryz.func73, Tryz.ntmps73
 go_wp2_with fail
 go_loop [5] (fun i => ∃ k : Nat, k ≤ n ∧ i = .int .i64 k ∧ x ∉ s.take k) (fun i => n - (intOf i).toNat)
 case atStart => exact ⟨0, Nat.zero_le _, rfl, by simp⟩
 case round =>
  obtain ⟨k, hk, rfl, hnm⟩ := hrel
  have HN := Lib.hid hnm
  clear hnm
  by_cases hlt : k < n
  ·obtain ⟨b, off, y, rfl, hbl, hx, hcell⟩ := HC.out k hlt
   have HX := Lib.hid hx
   clear hx
   by_cases hxy : y = x
   ·subst hxy
    have HE := Lib.hid (ret_bool (show decide (y ∈ s) = true from decide_eq_true (List.mem_of_getElem? HX.out)))
    go_wp2_with fail
    go_ret
    exact ⟨HE.out.symm, rfl⟩
   ·have hb : (y == x) = false := by rw [beq_eq_false_iff_ne]; exact hxy
    go_wp2_with fail
    go_round
    case rel => exact ⟨k + 1, by omega, by go_num, notMem_snoc HN.out HX.out (Ne.symm hxy)⟩
    case measure => simp [intOf]; omega
  ·obtain rfl : k = n := by omega
   have HE := Lib.hid (ret_bool (show decide (x ∈ s) = false by
    have h1 := HN.out
    rw [List.take_of_length_le (by have := HL.out; omega)] at h1
    exact decide_eq_false h1))
   go_wp2_with fail
   go_ret
   exact ⟨HE.out.symm, rfl⟩


theorem pairs_get {α : Type} (f : α → List Value) (hf : ∀ x, (f x).length = 2) {l : List α} {j : Nat} {u : Value} (h : (l.flatMap f)[j]? = some u) : ∃ k r x, l[k]? = some x ∧ r < 2 ∧ (f x)[r]? = some u ∧ j = k * 2 + r := by
 induction l generalizing j with
 | nil => simp at h
 | cons y l ih =>
  simp only [List.flatMap_cons] at h
  by_cases hj : j < 2
  ·rw [List.getElem?_append_left (by rw [hf]; exact hj)] at h
   exact ⟨0, j, y, rfl, hj, h, by omega⟩
  ·rw [List.getElem?_append_right (by rw [hf]; omega), hf] at h
   obtain ⟨k, r, x, h1, h2, h3, h4⟩ := ih h
   exact ⟨k + 1, r, x, by simpa using h1, h2, h3, by omega⟩
theorem bars_oneCell (l : List BarT) : ∀ u ∈ l.flatMap cellsBar, u.oneCell' = true := by
 intro u hu
 obtain ⟨x, _, hx⟩ := List.mem_flatMap.1 hu
 simp [cellsBar] at hx
 rcases hx with rfl | rfl <;> rfl
theorem bars_src {W : World} {ao : Option Addr} {n : Nat} {l : List BarT} (h : BarsAt W ao n l) : ∀ j u, (l.flatMap cellsBar)[j]? = some u → ∃ b off, ao = some ⟨b, off, none⟩ ∧ W.cell? ⟨b, off + j, none⟩ = some u := by
 intro j u hu
 obtain ⟨k, r, x, h1, h2, h3, rfl⟩ := pairs_get cellsBar (fun _ => rfl) hu
 obtain ⟨b, off, y, hb, _, hy, hc0, hc1⟩ := h.2 k (by have := lt_of_getElem? h1; rw [h.1] at this; exact this)
 rw [h1] at hy
 obtain rfl := Option.some.inj hy
 refine ⟨b, off, hb, ?_⟩
 obtain rfl | rfl : r = 0 ∨ r = 1 := by omega
 ·simp [cellsBar] at h3; rw [← h3]; exact hc0
 ·simp [cellsBar] at h3; rw [← h3]; exact hc1
theorem flat2 {α : Type} (f : α → List Value) (hf : ∀ x, (f x).length = 2) (l : List α) : (l.flatMap f).length = l.length * 2 := by
 induction l with
 | nil => rfl
 | cons x l ih => rw [List.flatMap_cons, List.length_append, hf, ih, List.length_cons]; omega
theorem OwnBars.made (W : World) (base : Nat) (h : base ≤ W.heap.size) : OwnBars (W.alloc (.cells #[] 70)) base (.slice (some ⟨W.heap.size, 0, none⟩) 0 0) [] :=
 World.ownsRow_made W #[] 0 h (Nat.zero_le _) rfl
theorem OwnBars.nil (W : World) (base : Nat) : OwnBars W base (.slice none 0 0) [] := World.ownsRow_nil W base _ _
theorem stepAppBars {w : World} {ops : Array Oper} {o : Oper} {a : Act} {K : Act → World → Prop} {Q : Exit → Act → World → Prop} {E : Prop} (hg : o.guard = none) (s x : Operand)
  (ho : o.op = .call { callee := .builtin .append, args := #[s, x], argTypes := #[24, 24] }) {base : Nat} {v : Value} {l0 : List BarT} (hs : a.eval s = v) (hown : OwnBars w base v l0)
  {ao : Option Addr} {n c : Nat} {l : List BarT} (hx : a.eval x = .slice ao n c) (hat : BarsAt w ao n l) (hl : l0.length + n < 1099511627776) (hbase : base ≤ w.heap.size)
  (hK : ∀ v' w', OwnBars w' base v' (l0 ++ l) → Kept (fun k => some k = v.ownBlock) w w' → (v'.ownBlock = v.ownBlock ∨ v'.ownBlock = some w.heap.size) → K (a.put o.dst v') w') :
  if Region.wanted o (yielded ops a.tmps) = true then Oper.wp Tryz.prog o a w K Q else E := by
 obtain ⟨i0, hi, hz0, hz1, hz2⟩ := info_parts infoBar
 refine step_append_whole _ hg s x 24 ho base 70 i0 _ 2 16 Tryz.underlying24 hi hz0 hz1 hz2 rfl (by decide) v l0.length (l0.flatMap cellsBar) hs hown ao n c (l.flatMap cellsBar) hx (by rw [flat2 cellsBar (fun _ => rfl), hat.1]) (bars_src hat) (bars_oneCell _) (by unfold maxLen; omega) (by omega) hbase ?_
 intro v' w' h1 h2 h3
 refine hK v' w' ?_ (Kept.of_grown h2) h3
 unfold OwnBars
 rw [List.length_append, List.flatMap_append, hat.1]
 exact h1

theorem OwnBars.set {W : World} {base : Nat} {v : Value} {l : List BarT} (h : OwnBars W base v l) {p : Addr} (hp : p.block < base) (u : Value) : OwnBars (W.setCell p u) base v l := ownsRow_setCell_below h hp u
theorem OwnBars.low {W : World} {base base' : Nat} {v : Value} {l : List BarT} (h : OwnBars W base v l) (hb : base' ≤ base) : OwnBars W base' v l := ownsRow_base h hb
theorem OwnBars.below {W W' : World} {base : Nat} {v : Value} {l : List BarT} (h : OwnBars W base v l) (hb : Below W.heap.size W W') : OwnBars W' base v l := Below.ownsRow hb h
end Go.Proofs.YtfbmpkdjhhcnpaaGreat

