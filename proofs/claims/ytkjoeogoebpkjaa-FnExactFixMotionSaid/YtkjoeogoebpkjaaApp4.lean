/- append(s, y, z) of two ints; three rows appended at once to an empty slice. No condition but sizes. -/
import Derived.Test.YtkjoeogoebpkjaaApp2
import Derived.Test.YtkjoeogoebpkjaaMx
import Derived.Deep.RegionLaw
import Derived.Maps.AppendAt
namespace Go.Proofs.Ytkjoeogoebpkjaa
open Go.RowKit
set_option maxRecDepth 100000
set_option linter.unusedVariables false
set_option linter.unusedSimpArgs false

theorem two_src {w : World} {g : Nat} {y z : Int} (hc0 : w.cell? ⟨g, 0, none⟩ = some (.int .i64 y)) (hc1 : w.cell? ⟨g, 1, none⟩ = some (.int .i64 z)) : ∀ (j : Nat) u, ([.int .i64 y, .int .i64 z] : List Value)[j]? = some u → ∃ b off, (some (⟨g, 0, none⟩ : Addr)) = some ⟨b, off, none⟩ ∧ w.cell? ⟨b, off + j, none⟩ = some u := by
  intro j u hu
  have hj : j < 2 := by have := lt_of_getElem? hu; simpa using this
  obtain rfl | rfl : j = 0 ∨ j = 1 := by omega
  · simp at hu; subst hu; exact ⟨g, 0, rfl, hc0⟩
  · simp at hu; subst hu; exact ⟨g, 0, rfl, hc1⟩
/-- append of two ints, as one step of a region that draws its order -/
theorem stepInts2 {w : World} {ops : Array Oper} {o : Oper} {a : Act} {K : Act → World → Prop} {Q : Exit → Act → World → Prop} {E : Prop} (hg : o.guard = none) (s x : Operand)
    (ho : o.op = .call { callee := .builtin .append, args := #[s, x], argTypes := #[33, 33] }) {base : Nat} {v : Value} {l : List Int} (hs : a.eval s = v) (hown : OwnInts w base v l)
    (y z : Int) (g : Nat) (hx : a.eval x = .slice (some ⟨g, 0, none⟩) 2 2) (hc0 : w.cell? ⟨g, 0, none⟩ = some (.int .i64 y)) (hc1 : w.cell? ⟨g, 1, none⟩ = some (.int .i64 z)) (hl : l.length < 1099511627776) (hbase : base ≤ w.heap.size)
    (hK : ∀ v' w', OwnInts w' base v' (l ++ [y, z]) → Kept (fun k => some k = v.ownBlock) w w' → (v'.ownBlock = v.ownBlock ∨ ∀ b, v'.ownBlock = some b → w.heap.size ≤ b) → K (a.put o.dst v') w') :
    if Region.wanted o (yielded ops a.tmps) = true then Oper.wp Try.prog o a w K Q else E := by
  obtain ⟨i0, hi, hz0, hz1, hz2⟩ := info_parts infoInt
  refine step_append_whole _ hg s x 33 ho base 3 i0 _ 1 8 Try.underlying33 hi hz0 hz1 hz2 rfl (by decide) v l.length (l.map (Value.int .i64)) hs hown (some ⟨g, 0, none⟩) 2 2 [.int .i64 y, .int .i64 z] hx rfl (two_src hc0 hc1) (by intro u hu; simp at hu; rcases hu with rfl | rfl <;> rfl) (by unfold maxLen; omega) (by omega) hbase ?_
  intro v' w' h1 h2 h3
  refine hK v' w' ?_ (Kept.of_grown h2) (h3.imp id fun h b hb => by rw [h] at hb; exact Nat.le_of_eq (Option.some.inj hb))
  unfold OwnInts
  rw [List.length_append, List.map_append]
  exact h1
/-- .. at a list of operations, and where the slice then lies -/
theorem app2At {w : World} {ops : Array Oper} {rest : List Oper} {o : Oper} {a : Act} {Q : Exit → Act → World → Prop} (hg : o.guard = none) (s x : Operand)
    (ho : o.op = .call { callee := .builtin .append, args := #[s, x], argTypes := #[33, 33] }) {base : Nat} {v : Value} {l : List Int} (hs : a.eval s = v) (hown : OwnInts w base v l) (y z : Int)
    (hx : a.eval x = .slice (some ⟨w.heap.size, 0, none⟩) 2 2) (hl : l.length < 1099511627776) (hbase : base ≤ w.heap.size)
    (hK : ∀ v' w', OwnInts w' base v' (l ++ [y, z]) → Kept (fun k => some k = v.ownBlock) w w' → (v'.ownBlock = v.ownBlock ∨ ∀ b, v'.ownBlock = some b → w.heap.size ≤ b) → wpList Try.prog ops Q rest (a.put o.dst v') w') :
    wpList Try.prog ops Q (o :: rest) a (w.alloc (.cells #[.int .i64 y, .int .i64 z] 3)) := by
  obtain ⟨i0, hi, hz0, hz1, hz2⟩ := info_parts infoInt
  refine wpList_append_whole _ hg s x 33 ho base 3 i0 (.int .i64 0) 1 8 Try.underlying33 hi hz0 hz1 hz2 rfl (by decide) v l.length (l.map (Value.int .i64)) hs (World.ownsRow.alloc hown _) (some ⟨w.heap.size, 0, none⟩) 2 2 [.int .i64 y, .int .i64 z] hx rfl (two_src (by simp [World.cell?_alloc_new]) (by simp [World.cell?_alloc_new])) (by intro u hu; simp at hu; rcases hu with rfl | rfl <;> rfl) (by unfold maxLen; omega) (by omega) (by simp; omega) ?_
  intro v' w' h1 h2 h3
  refine hK v' w' (by unfold OwnInts; simpa using h1) ((Kept.of_below ((Below.refl _ _).alloc (Nat.le_refl _) _)).trans ⟨h2.os, h2.tape, h2.output, h2.size, fun k hk hs => h2.block k hk hs⟩) ?_
  rcases h3 with h3 | h3
  · exact .inl h3
  · right
    intro b hb
    rw [h3] at hb
    simp at hb
    omega
theorem IRows.own1 {W : World} {base : Nat} {v : Value} {r : List Int} (h : OwnInts W base v r) : IRows W base [v] [r] := by
  have := (IRows.nil W base).snoc h (fun u hu => by simp at hu)
  simpa using this
/-- append of rows to an empty slice without room: all lies anew -/
theorem appRowsNew {w : World} {ops : Array Oper} {rest : List Oper} {o : Oper} {a : Act} {Q : Exit → Act → World → Prop} (hg : o.guard = none) (s x : Operand)
    (ho : o.op = .call { callee := .builtin .append, args := #[s, x], argTypes := #[22, 22] }) (g : Nat) (hs : a.eval s = .slice (some ⟨g, 0, none⟩) 0 0) {base n : Nat} {vs : List Value} {ll : List (List Int)} (hu : IRows w base vs ll) (hn : vs.length = n) (hn0 : 0 < n) (hn1 : n ≤ 1000)
    (hx : a.eval x = .slice (some ⟨w.heap.size, 0, none⟩) n n) (hbase : base ≤ w.heap.size)
    (hK : ∀ v' w', OwnIntss w' base v' ll → Below w.heap.size w w' → wpList Try.prog ops Q rest (a.put o.dst v') w') :
    wpList Try.prog ops Q (o :: rest) a (w.alloc (.cells vs.toArray 33)) := by
  obtain ⟨i0, hi, hz0, hz1, hz2⟩ := info_parts infoInts
  have h1c : ∀ (j : Nat) q, vs[j]? = some q → (w.alloc (.cells vs.toArray 33)).cell? ((⟨w.heap.size, 0, none⟩ : Addr).add j) = some q := fun j q hq => by
    rw [Addr.add_lit]
    simp [World.cell?_alloc_new, hq]
  refine wpList_plain hg fun K hK' => ?_
  obtain ⟨v', w', hrun, r1, r2⟩ := run_append_arg_grows (P := Try.prog) (w.alloc (.cells vs.toArray 33)) 22 o.type 33 i0 (.slice none 0 0) 1 24 Try.underlying22 hi hz0 hz1 hz2 rfl (by decide) ⟨g, 0, none⟩ 0 0 [] rfl (by intro j q hq; simp at hq) ⟨w.heap.size, 0, none⟩ n n vs (by rw [hn, Nat.mul_one]) h1c (by omega) (by unfold maxLen; omega) (by omega)
  unfold Oper.wp execOp
  simp only [ho, resolve, invoke, builtin, Sem.run_bind, Sem.run_pure, Result.andThen_ok, List.map_toArray, List.map_cons, List.map_nil, hs, hx, hrun]
  have hb : Below w.heap.size w w' := ((Below.refl _ w).alloc (Nat.le_refl _) (.cells vs.toArray 33)).trans ((Below.of_grown_none r2).mono (by simp))
  refine hK' _ _ (hK v' w' ⟨vs, ?_, hu.below hb⟩ hb)
  have hl : ll.length = n := by rw [← hu.len, hn]
  rw [hl]
  have h3 := ownsRow_base r1 (show base ≤ _ by rw [World.size_alloc]; omega)
  simpa using h3
end Go.Proofs.Ytkjoeogoebpkjaa
