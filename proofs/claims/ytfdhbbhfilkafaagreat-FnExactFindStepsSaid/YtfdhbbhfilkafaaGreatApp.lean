/- append(s, l...) with s the call's own and l whatever slice: one law for nil, empty and full sources. No condition but sizes. -/
import Derived.Test.YtfdhbbhfilkafaaGreatElem
namespace Go.Proofs.YtfdhbbhfilkafaaGreat
open Go.RowKit
set_option maxRecDepth 100000
set_option linter.unusedVariables false
set_option linter.unusedSimpArgs false

theorem run_append_noneAny {P : Program} (w : World) (base : Nat) (t ty e : TypeId) (i : TypeInfo) (size : Nat) (ht : P.underlying t = some (.slice e)) (hi : P.info? e = some i)
    (v : Value) (n : Nat) (xs : List Value) (hown : w.ownsRow base e size v n xs) (c : Nat) :
    (Builtin.append_ #[t, t] ty #[v, .slice none 0 c]).run P w = .ok v w := by
  rcases hown.2 with ⟨rfl, rfl⟩ | ⟨g, cap, cur, rfl, _, _, hnc, _⟩
  · simp [Builtin.append_, run_underlying ht, sizeOf, typeInfo, hi, Builtin.lenOf, Builtin.firstCells]
  · simp [Builtin.append_, run_underlying ht, sizeOf, typeInfo, hi, Builtin.lenOf, Builtin.firstCells, hnc, storeCells]

theorem wpList_append_all {P : Program} (w : World) {ops : Array Oper} {rest : List Oper} {o : Oper} {a : Act} {Q : Exit → Act → World → Prop} (hgd : o.guard = none) (s x : Operand) (t : TypeId)
    (ho : o.op = .call { callee := .builtin .append, args := #[s, x], argTypes := #[t, t] })
    (base : Nat) (e : TypeId) (i : TypeInfo) (z : Value) (size bytes : Nat) (ht : P.underlying t = some (.slice e)) (hi : P.info? e = some i) (hz : i.zero = some z)
    (hsize : i.size = size) (hby : i.bytes = bytes) (hzs : z.cells.size = size) (hsz : 0 < size)
    (v : Value) (n : Nat) (xs : List Value) (hs : a.eval s = v) (hown : w.ownsRow base e size v n xs)
    (ao : Option Addr) (m c : Nat) (news : List Value) (hx : a.eval x = .slice ao m c) (hl : news.length = m * size)
    (hsrc : ∀ j u, news[j]? = some u → ∃ b off, ao = some ⟨b, off, none⟩ ∧ w.cell? ⟨b, off + j, none⟩ = some u) (h1 : ∀ u ∈ news, u.oneCell' = true)
    (h63 : n + m ≤ maxLen) (hbytes : (n + m) * bytes ≤ 140737488355328) (hbase : base ≤ w.heap.size)
    (hK : ∀ v' w', w'.ownsRow base e size v' (n + m) (xs ++ news) → w.grownBy w' v.ownBlock → wpList P ops Q rest (a.put o.dst v') w') : wpList P ops Q (o :: rest) a w := by
  cases ao with
  | some ad =>
    refine wpList_append_own w hgd s x t ho base e i z size bytes ht hi hz hsize hby hzs hsz v n xs hs hown ad m c news hx hl ?_ h1 h63 hbytes hbase fun v' w' h2 h3 _ => hK v' w' h2 h3
    intro j u hu
    obtain ⟨b, off, hb, hc⟩ := hsrc j u hu
    cases hb
    rw [Addr.add_lit]
    exact hc
  | none =>
    have hn : news = [] := by
      cases news with
      | nil => rfl
      | cons u r =>
        obtain ⟨b, off, hb, _⟩ := hsrc 0 u rfl
        cases hb
    subst hn
    obtain rfl : m = 0 := by
      rcases Nat.eq_zero_or_pos m with h | h
      · exact h
      · have := Nat.mul_pos h hsz
        simp at hl
        omega
    refine wpList_plain hgd fun K hK' => ?_
    have hr := run_append_noneAny (P := P) w base t o.type e i size ht hi v n xs hown c
    unfold Oper.wp execOp
    simp only [ho, resolve, invoke, builtin, Sem.run_bind, Sem.run_pure, Result.andThen_ok, List.map_toArray, List.map_cons, List.map_nil, hs, hx, hr]
    exact hK' _ _ (hK v w (by simpa using hown) (World.grownBy.refl _ _))

/-- of ints -/
theorem appAll {w : World} {ops : Array Oper} {rest : List Oper} {o : Oper} {a : Act} {Q : Exit → Act → World → Prop} (hg : o.guard = none) (s x : Operand)
    (ho : o.op = .call { callee := .builtin .append, args := #[s, x], argTypes := #[35, 35] }) {base : Nat} {v : Value} {l0 : List Int} (hs : a.eval s = v) (hown : OwnInts w base v l0)
    {ao : Option Addr} {n c : Nat} {l : List Int} (hx : a.eval x = .slice ao n c) (hat : IntsAt w ao n l) (hl : l0.length + n < 17592186044416) (hbase : base ≤ w.heap.size)
    (hK : ∀ v' w', OwnInts w' base v' (l0 ++ l) → Kept (fun k => some k = v.ownBlock) w w' → wpList Tryz.prog ops Q rest (a.put o.dst v') w') :
    wpList Tryz.prog ops Q (o :: rest) a w := by
  obtain ⟨i0, hi, hz0, hz1, hz2⟩ := info_parts infoInt
  refine wpList_append_all _ hg s x 35 ho base 3 i0 (.int .i64 0) 1 8 Tryz.underlying35 hi hz0 hz1 hz2 rfl (by decide) v l0.length (l0.map (Value.int .i64)) hs hown ao n c (l.map (Value.int .i64)) hx (by simp [hat.1]) ?_ (ints_oneCell _ _) (by unfold maxLen; omega) (by omega) hbase ?_
  · intro j u hu
    have hj : j < n := by have := lt_of_getElem? hu; simpa [hat.1] using this
    obtain ⟨b, off, y, hb, _, hy, hc⟩ := hat.2 j hj
    refine ⟨b, off, hb, ?_⟩
    rw [hc]
    simpa [hy] using hu
  · intro v' w' h1 h2
    refine hK v' w' ?_ (Kept.of_grown h2)
    unfold OwnInts
    rw [List.length_append, List.map_append, hat.1]
    exact h1

set_option maxHeartbeats 1000000 in
theorem copyInts_any (a : Option Addr) (n cap : Nat) (l : List Int) (W : World) (h : IntsAt W a n l) (hn : n ≤ 1099511627776) :
    Calls Tryz.prog 124 #[.slice a n cap] W (RetInts W l) := by
  have H := Lib.hid h
  clear h
  go_enter Tryz.func124, Tryz.ntmps124
  go_wp2_with (at_builtin; refine appAll rfl _ _ rfl rfl (OwnInts.made W W.heap.size (Nat.le_refl _)) rfl (H.out.below ((Below.refl _ _).alloc (Nat.le_refl _) _)) (by simp; omega) (by simp) ?_; intro v' w1 ho1 hk1)
  go_ret
  have hb : Below W.heap.size W w1 := ((Below.refl _ W).alloc (Nat.le_refl _) _).trans (hk1.setOwn (OwnInts.made W W.heap.size (Nat.le_refl _)) (Nat.le_refl _) (by simp))
  exact ⟨_, rfl, by simpa using ho1, hb⟩
theorem copyInts_is (W : World) (v : Value) (l : List Int) (h : IsInts W v l) (hn : l.length ≤ 1099511627776) : Calls Tryz.prog 124 #[v] W (RetInts W l) := by
  obtain ⟨a, cap, rfl, hi⟩ := h
  exact copyInts_any _ _ _ _ _ hi hn
end Go.Proofs.YtfdhbbhfilkafaaGreat
