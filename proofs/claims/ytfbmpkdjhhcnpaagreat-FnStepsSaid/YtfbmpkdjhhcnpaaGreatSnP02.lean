/- append(s, l...) with s the call's own and l whatever slice: one law for nil, empty and full sources. No condition but sizes. -/
import Derived.Test.YtfbmpkdjhhcnpaaGreatSnP01
import Derived.Deep.RegionLaw
import Derived.Maps.AppendAt
import Derived.Deep.RegionHeld3
import Derived.Laws.BitsLemmas
import Derived.Deep.QuietTactic
import Derived.BigQuiet
namespace Go.Proofs.YtfbmpkdjhhcnpaaGreat
open Go.RowKit
set_option maxRecDepth 100000
set_option linter.unusedVariables false
set_option linter.unusedSimpArgs false

theorem run_append_noneAny {P : Program} (w : World) (base : Nat) (t ty e : TypeId) (i : TypeInfo) (size : Nat) (ht : P.underlying t = some (.slice e)) (hi : P.info? e = some i)
  (v : Value) (n : Nat) (xs : List Value) (hown : w.ownsRow base e size v n xs) (c : Nat) :
  (Builtin.append_ #[t, t] ty #[v, .slice none 0 c]).run P w = .ok v w := by
 rcases hown.2 with ⟨rfl, rfl⟩ | ⟨g, cap, cur, rfl, _, _, hnc, _⟩
 ·simp [Builtin.append_, run_underlying ht, sizeOf, typeInfo, hi, Builtin.lenOf, Builtin.firstCells]
 ·simp [Builtin.append_, run_underlying ht, sizeOf, typeInfo, hi, Builtin.lenOf, Builtin.firstCells, hnc, storeCells]

theorem wpList_append_all {P : Program} (w : World) {ops : Array Oper} {rest : List Oper} {o : Oper} {a : Act} {Q : Exit → Act → World → Prop} (hgd : o.guard = none) (s x : Operand) (t : TypeId)
  (ho : o.op = .call { callee := .builtin .append, args := #[s, x], argTypes := #[t, t] })
  (base : Nat) (e : TypeId) (i : TypeInfo) (z : Value) (size bytes : Nat) (ht : P.underlying t = some (.slice e)) (hi : P.info? e = some i) (hz : i.zero = some z)
  (hsize : i.size = size) (hby : i.bytes = bytes) (hzs : z.cells.size = size) (hsz : 0 < size)
  (v : Value) (n : Nat) (xs : List Value) (hs : a.eval s = v) (hown : w.ownsRow base e size v n xs)
  (ao : Option Addr) (m c : Nat) (news : List Value) (hx : a.eval x = .slice ao m c) (hl : news.length = m * size)
  (hsrc : ∀ j u, news[j]? = some u → ∃ b off, ao = some ⟨b, off, none⟩ ∧ w.cell? ⟨b, off + j, none⟩ = some u) (h1 : ∀ u ∈ news, u.oneCell' = true)
  (h63 : n + m ≤ maxLen) (hbytes : (n + m) * bytes ≤ 140737488355328) (hbase : base ≤ w.heap.size)
  (hK : ∀ v' w', w'.ownsRow base e size v' (n + m) (xs ++ news) → w.grownBy w' v.ownBlock → wpList P ops Q rest (a.put o.dst v') w') : wpList P ops Q (o :: rest) a w := by
 cases ao with
 | some ad =>
  refine wpList_append_own w hgd s x t ho base e i z size bytes ht hi hz hsize hby hzs hsz v n xs hs hown ad m c news hx hl ?_ h1 h63 hbytes hbase fun v' w' h2 h3 _ => hK v' w' h2 h3
  intro j u hu
  obtain ⟨b, off, hb, hc⟩ := hsrc j u hu
  cases hb
  rw [Addr.add_lit]
  exact hc
 | none =>
  have hn : news = [] := by
   cases news with
   | nil => rfl
   | cons u r =>
    obtain ⟨b, off, hb, _⟩ := hsrc 0 u rfl
    cases hb
  subst hn
  obtain rfl : m = 0 := by
   rcases Nat.eq_zero_or_pos m with h | h
   ·exact h
   ·have := Nat.mul_pos h hsz
    simp at hl
    omega
  refine wpList_plain hgd fun K hK' => ?_
  have hr := run_append_noneAny (P := P) w base t o.type e i size ht hi v n xs hown c
  unfold Oper.wp execOp
  simp only [ho, resolve, invoke, builtin, Sem.run_bind, Sem.run_pure, Result.andThen_ok, List.map_toArray, List.map_cons, List.map_nil, hs, hx, hr]
  exact hK' _ _ (hK v w (by simpa using hown) (World.grownBy.refl _ _))

theorem appAll {w : World} {ops : Array Oper} {rest : List Oper} {o : Oper} {a : Act} {Q : Exit → Act → World → Prop} (hg : o.guard = none) (s x : Operand)
  (ho : o.op = .call { callee := .builtin .append, args := #[s, x], argTypes := #[35, 35] }) {base : Nat} {v : Value} {l0 : List Int} (hs : a.eval s = v) (hown : OwnInts w base v l0)
  {ao : Option Addr} {n c : Nat} {l : List Int} (hx : a.eval x = .slice ao n c) (hat : IntsAt w ao n l) (hl : l0.length + n < 17592186044416) (hbase : base ≤ w.heap.size)
  (hK : ∀ v' w', OwnInts w' base v' (l0 ++ l) → Kept (fun k => some k = v.ownBlock) w w' → wpList Tryz.prog ops Q rest (a.put o.dst v') w') :
  wpList Tryz.prog ops Q (o :: rest) a w := by
 obtain ⟨i0, hi, hz0, hz1, hz2⟩ := info_parts infoInt
 refine wpList_append_all _ hg s x 35 ho base 3 i0 (.int .i64 0) 1 8 Tryz.underlying35 hi hz0 hz1 hz2 rfl (by decide) v l0.length (l0.map (Value.int .i64)) hs hown ao n c (l.map (Value.int .i64)) hx (by simp [hat.1]) ?_ (ints_oneCell _ _) (by unfold maxLen; omega) (by omega) hbase ?_
 ·intro j u hu
  have hj : j < n := by have := lt_of_getElem? hu; simpa [hat.1] using this
  obtain ⟨b, off, y, hb, _, hy, hc⟩ := hat.2 j hj
  refine ⟨b, off, hb, ?_⟩
  rw [hc]
  simpa [hy] using hu
 ·intro v' w' h1 h2
  refine hK v' w' ?_ (Kept.of_grown h2)
  unfold OwnInts
  rw [List.length_append, List.map_append, hat.1]
  exact h1

set_option maxHeartbeats 1000000 in
theorem copyInts_any (a : Option Addr) (n cap : Nat) (l : List Int) (W : World) (h : IntsAt W a n l) (hn : n ≤ 1099511627776) :
  Calls Tryz.prog 111 #[.slice a n cap] W (RetInts W l) := by
 have H := Lib.hid h
 clear h
 go_enter Tryz.func111, Tryz.ntmps111
 go_wp2_with (at_builtin; refine appAll rfl _ _ rfl rfl (OwnInts.made W W.heap.size (Nat.le_refl _)) rfl (H.out.below ((Below.refl _ _).alloc (Nat.le_refl _) _)) (by simp; omega) (by simp) ?_; intro v' w1 ho1 hk1)
 go_ret
 have hb : Below W.heap.size W w1 := ((Below.refl _ W).alloc (Nat.le_refl _) _).trans (hk1.setOwn (OwnInts.made W W.heap.size (Nat.le_refl _)) (Nat.le_refl _) (by simp))
 exact ⟨_, rfl, by simpa using ho1, hb⟩
theorem copyInts_is (W : World) (v : Value) (l : List Int) (h : IsInts W v l) (hn : l.length ≤ 1099511627776) : Calls Tryz.prog 111 #[v] W (RetInts W l) := by
 obtain ⟨a, cap, rfl, hi⟩ := h
 exact copyInts_any _ _ _ _ _ hi hn

theorem Kept.cell {S : Nat → Prop} {w w' : World} (h : Kept S w w') {b o : Nat} (hb : b < w.heap.size) (hs : ¬ S b) : w'.cell? ⟨b, o, none⟩ = w.cell? ⟨b, o, none⟩ := World.cell?_of_block (a := ⟨b, o, none⟩) (h.block b hb hs)
theorem Kept.frozen {S : Nat → Prop} {w w' : World} (h : Kept S w w') {b o : Nat} (hb : b < w.heap.size) (hs : ¬ S b) : w'.frozen? ⟨b, o, none⟩ = w.frozen? ⟨b, o, none⟩ := World.frozen?_of_block (a := ⟨b, o, none⟩) (h.block b hb hs)
theorem run_append_whole {P : Program} (w : World) (t ty : TypeId) (base : Nat) (e : TypeId) (i : TypeInfo) (z : Value) (size bytes : Nat) (ht : P.underlying t = some (.slice e)) (hi : P.info? e = some i) (hz : i.zero = some z)
  (hsize : i.size = size) (hby : i.bytes = bytes) (hzs : z.cells.size = size) (hsz : 0 < size)
  (v : Value) (n : Nat) (xs : List Value) (hown : w.ownsRow base e size v n xs)
  (ao : Option Addr) (m c : Nat) (news : List Value) (hl : news.length = m * size)
  (hsrc : ∀ j u, news[j]? = some u → ∃ b off, ao = some ⟨b, off, none⟩ ∧ w.cell? ⟨b, off + j, none⟩ = some u) (h1 : ∀ u ∈ news, u.oneCell' = true)
  (h63 : n + m ≤ maxLen) (hbytes : (n + m) * bytes ≤ 140737488355328) (hbase : base ≤ w.heap.size) :
  ∃ v' w', (Builtin.append_ #[t, t] ty #[v, .slice ao m c]).run P w = .ok v' w' ∧ w'.ownsRow base e size v' (n + m) (xs ++ news) ∧ w.grownBy w' v.ownBlock ∧ (v'.ownBlock = v.ownBlock ∨ v'.ownBlock = some w.heap.size) := by
 cases ao with
 | some ad =>
  obtain ⟨v', w', hr, h2, h3, _, h5⟩ := run_append_own_at (P := P) w base t ty e i z size bytes ht hi hz hsize hby hzs hsz v n xs hown ad m c news hl (by
   intro j u hu
   obtain ⟨b, off, hb, hc⟩ := hsrc j u hu
   cases hb
   rw [Addr.add_lit]
   exact hc) h1 h63 hbytes hbase
  exact ⟨v', w', hr, h2, h3, h5⟩
 | none =>
  have hn : news = [] := by
   cases news with
   | nil => rfl
   | cons u r =>
    obtain ⟨b, off, hb, _⟩ := hsrc 0 u rfl
    cases hb
  subst hn
  obtain rfl : m = 0 := by
   rcases Nat.eq_zero_or_pos m with h | h
   ·exact h
   ·have := Nat.mul_pos h hsz
    simp at hl
    omega
  exact ⟨v, w, run_append_noneAny (P := P) w base t ty e i size ht hi v n xs hown c, by simpa using hown, World.grownBy.refl _ _, .inl rfl⟩

theorem step_append_whole {P : Program} (w : World) {ops : Array Oper} {o : Oper} {a : Act} {K : Act → World → Prop} {Q : Exit → Act → World → Prop} {E : Prop} (hgd : o.guard = none) (s x : Operand) (t : TypeId)
  (ho : o.op = .call { callee := .builtin .append, args := #[s, x], argTypes := #[t, t] })
  (base : Nat) (e : TypeId) (i : TypeInfo) (z : Value) (size bytes : Nat) (ht : P.underlying t = some (.slice e)) (hi : P.info? e = some i) (hz : i.zero = some z)
  (hsize : i.size = size) (hby : i.bytes = bytes) (hzs : z.cells.size = size) (hsz : 0 < size)
  (v : Value) (n : Nat) (xs : List Value) (hs : a.eval s = v) (hown : w.ownsRow base e size v n xs)
  (ao : Option Addr) (m c : Nat) (news : List Value) (hx : a.eval x = .slice ao m c) (hl : news.length = m * size)
  (hsrc : ∀ j u, news[j]? = some u → ∃ b off, ao = some ⟨b, off, none⟩ ∧ w.cell? ⟨b, off + j, none⟩ = some u) (h1 : ∀ u ∈ news, u.oneCell' = true)
  (h63 : n + m ≤ maxLen) (hbytes : (n + m) * bytes ≤ 140737488355328) (hbase : base ≤ w.heap.size)
  (hK : ∀ v' w', w'.ownsRow base e size v' (n + m) (xs ++ news) → w.grownBy w' v.ownBlock → (v'.ownBlock = v.ownBlock ∨ v'.ownBlock = some w.heap.size) → K (a.put o.dst v') w') :
  if Region.wanted o (yielded ops a.tmps) = true then Oper.wp P o a w K Q else E := by
 have hw : Region.wanted o (yielded ops a.tmps) = true := by simp [Region.wanted, hgd]
 rw [if_pos hw]
 obtain ⟨v', w', hr, h2, h3, h4⟩ := run_append_whole (P := P) w t o.type base e i z size bytes ht hi hz hsize hby hzs hsz v n xs hown ao m c news hl hsrc h1 h63 hbytes hbase
 unfold Oper.wp execOp
 simp only [ho, resolve, invoke, builtin, Sem.run_bind, Sem.run_pure, Result.andThen_ok, List.map_toArray, List.map_cons, List.map_nil, hs, hx, hr]
 exact hK v' w' h2 h3 h4

theorem wpList_append_whole {P : Program} (w : World) {ops : Array Oper} {rest : List Oper} {o : Oper} {a : Act} {Q : Exit → Act → World → Prop} (hgd : o.guard = none) (s x : Operand) (t : TypeId)
  (ho : o.op = .call { callee := .builtin .append, args := #[s, x], argTypes := #[t, t] })
  (base : Nat) (e : TypeId) (i : TypeInfo) (z : Value) (size bytes : Nat) (ht : P.underlying t = some (.slice e)) (hi : P.info? e = some i) (hz : i.zero = some z)
  (hsize : i.size = size) (hby : i.bytes = bytes) (hzs : z.cells.size = size) (hsz : 0 < size)
  (v : Value) (n : Nat) (xs : List Value) (hs : a.eval s = v) (hown : w.ownsRow base e size v n xs)
  (ao : Option Addr) (m c : Nat) (news : List Value) (hx : a.eval x = .slice ao m c) (hl : news.length = m * size)
  (hsrc : ∀ j u, news[j]? = some u → ∃ b off, ao = some ⟨b, off, none⟩ ∧ w.cell? ⟨b, off + j, none⟩ = some u) (h1 : ∀ u ∈ news, u.oneCell' = true)
  (h63 : n + m ≤ maxLen) (hbytes : (n + m) * bytes ≤ 140737488355328) (hbase : base ≤ w.heap.size)
  (hK : ∀ v' w', w'.ownsRow base e size v' (n + m) (xs ++ news) → w.grownBy w' v.ownBlock → (v'.ownBlock = v.ownBlock ∨ v'.ownBlock = some w.heap.size) → wpList P ops Q rest (a.put o.dst v') w') :
  wpList P ops Q (o :: rest) a w := by
 refine wpList_plain hgd fun K hK' => ?_
 obtain ⟨v', w', hr, h2, h3, h4⟩ := run_append_whole (P := P) w t o.type base e i z size bytes ht hi hz hsize hby hzs hsz v n xs hown ao m c news hl hsrc h1 h63 hbytes hbase
 unfold Oper.wp execOp
 simp only [ho, resolve, invoke, builtin, Sem.run_bind, Sem.run_pure, Result.andThen_ok, List.map_toArray, List.map_cons, List.map_nil, hs, hx, hr]
 exact hK' _ _ (hK v' w' h2 h3 h4)


theorem stepInts1 {w : World} {ops : Array Oper} {o : Oper} {a : Act} {K : Act → World → Prop} {Q : Exit → Act → World → Prop} {E : Prop} (hg : o.guard = none) (s x : Operand)
  (ho : o.op = .call { callee := .builtin .append, args := #[s, x], argTypes := #[35, 35] }) {base : Nat} {v : Value} {l : List Int} (hs : a.eval s = v) (hown : OwnInts w base v l)
  (y : Int) (g : Nat) (hx : a.eval x = .slice (some ⟨g, 0, none⟩) 1 1) (hc : w.cell? ⟨g, 0, none⟩ = some (.int .i64 y)) (hl : l.length < 1099511627776) (hbase : base ≤ w.heap.size)
  (hK : ∀ v' w', OwnInts w' base v' (l ++ [y]) → Kept (fun k => some k = v.ownBlock) w w' → (v'.ownBlock = v.ownBlock ∨ v'.ownBlock = some w.heap.size) → K (a.put o.dst v') w') :
  if Region.wanted o (yielded ops a.tmps) = true then Oper.wp Tryz.prog o a w K Q else E := by
 obtain ⟨i0, hi, hz0, hz1, hz2⟩ := info_parts infoInt
 refine step_append_whole _ hg s x 35 ho base 3 i0 _ 1 8 Tryz.underlying35 hi hz0 hz1 hz2 rfl (by decide) v l.length (l.map (Value.int .i64)) hs hown (some ⟨g, 0, none⟩) 1 1 [.int .i64 y] hx rfl ?_ (by intro u hu; simp at hu; subst hu; rfl) (by unfold maxLen; omega) (by omega) hbase ?_
 ·intro j u hu
  have hj : j = 0 := by have := lt_of_getElem? hu; simp at this; omega
  subst hj
  simp at hu
  subst hu
  exact ⟨g, 0, rfl, hc⟩
 ·intro v' w' h1 h2 h3
  refine hK v' w' ?_ (Kept.of_grown h2) h3
  unfold OwnInts
  rw [List.length_append, List.map_append]
  exact h1
theorem app1At {w : World} {ops : Array Oper} {rest : List Oper} {o : Oper} {a : Act} {Q : Exit → Act → World → Prop} (hg : o.guard = none) (s x : Operand)
  (ho : o.op = .call { callee := .builtin .append, args := #[s, x], argTypes := #[35, 35] }) {base : Nat} {v : Value} {l : List Int} (hs : a.eval s = v) (hown : OwnInts w base v l) (y : Int)
  (hx : a.eval x = .slice (some ⟨w.heap.size, 0, none⟩) 1 1) (hl : l.length < 1099511627776) (hbase : base ≤ w.heap.size)
  (hK : ∀ v' w', OwnInts w' base v' (l ++ [y]) → Kept (fun k => some k = v.ownBlock) w w' → (v'.ownBlock = v.ownBlock ∨ ∀ b, v'.ownBlock = some b → w.heap.size ≤ b) → wpList Tryz.prog ops Q rest (a.put o.dst v') w') :
  wpList Tryz.prog ops Q (o :: rest) a (w.alloc (.cells #[.int .i64 y] 3)) := by
 obtain ⟨i0, hi, hz0, hz1, hz2⟩ := info_parts infoInt
 refine wpList_append_whole _ hg s x 35 ho base 3 i0 (.int .i64 0) 1 8 Tryz.underlying35 hi hz0 hz1 hz2 rfl (by decide) v l.length (l.map (Value.int .i64)) hs (World.ownsRow.alloc hown _) (some ⟨w.heap.size, 0, none⟩) 1 1 [.int .i64 y] hx rfl ?_ (by intro u hu; simp at hu; subst hu; rfl) (by unfold maxLen; omega) (by omega) (by simp; omega) ?_
 ·intro j u hu
  have hj : j = 0 := by have := lt_of_getElem? hu; simp at this; omega
  subst hj
  simp at hu
  subst hu
  exact ⟨w.heap.size, 0, rfl, by simp [World.cell?_alloc_new]⟩
 ·intro v' w' h1 h2 h3
  refine hK v' w' (by unfold OwnInts; simpa using h1) ((Kept.of_below ((Below.refl _ _).alloc (Nat.le_refl _) _)).trans ⟨h2.os, h2.tape, h2.output, h2.size, fun k hk hs => h2.block k hk hs⟩) ?_
  rcases h3 with h3 | h3
  ·exact .inl h3
  ·right
   intro b hb
   rw [h3] at hb
   simp at hb
   omega
theorem belAl (w : World) (o : Obj) : Below w.heap.size w (w.alloc o) := (Below.refl _ _).alloc (Nat.le_refl _) _
theorem setKept {W : World} {b j : Nat} {x : Value} : Kept (fun k => k = b) W (W.setCell ⟨b, j, none⟩ x) :=
 ⟨rfl, rfl, rfl, by simp, fun k hk hs => by simp [World.setCell, Array.getElem?_modify, Ne.symm hs]⟩
theorem cellSame {w : World} {b k : Nat} {v x : Value} (h : w.cell? ⟨b, k, none⟩ = some x) : (w.setCell ⟨b, k, none⟩ v).cell? ⟨b, k, none⟩ = some v := World.cell?_setCell_same _ _ _ h
def rangeB (k l : Int) : Bool := inB k 1 3 && inB l 0 (2 * k - 1)
set_option maxHeartbeats 1000000 in
theorem implRange_any (k l : Int) (w : World) : Calls Tryz.prog 87 #[.int .i64 k, .int .i64 l] w fun e w' => e = .returned (.bool (rangeB k l)) ∧ Below w.heap.size w w' := by
 cases hk : inB k 1 3
 ·have HE := Lib.hid (ret_bool (show rangeB k l = false by unfold rangeB; rw [hk]; rfl))
  have HC : Hid (Calls Tryz.prog 47 #[.int .i64 k, .int .i64 1, .int .i64 3] w fun e w' => e = .returned (.bool false) ∧ w = w') := Lib.hid (by have := within_any k 1 3 w; rwa [hk] at this)
  clear hk
  go_enter Tryz.func87, Tryz.ntmps87
  go_wp2_with fail
  refine HC.out.mono ?_
  rintro e w1 ⟨rfl, rfl⟩
  go_wp2_with fail
  go_ret
  exact ⟨HE.out.symm, Below.refl _ _⟩
 ·have hk2 : 1 ≤ k ∧ k ≤ 3 := by simpa [inB] using hk
  have HC : Hid (Calls Tryz.prog 47 #[.int .i64 k, .int .i64 1, .int .i64 3] w fun e w' => e = .returned (.bool true) ∧ w = w') := Lib.hid (by have := within_any k 1 3 w; rwa [hk] at this)
  have HE := Lib.hid (ret_bool (show rangeB k l = inB l 0 (2 * k - 1) by unfold rangeB; rw [hk]; rfl))
  clear hk
  go_enter Tryz.func87, Tryz.ntmps87
  go_wp2_with fail
  refine HC.out.mono ?_
  rintro e w1 ⟨rfl, rfl⟩
  go_wp2_with fail
  refine (within_any l 0 (2 * k - 1) w).mono ?_
  rintro e w1 ⟨rfl, rfl⟩
  go_wp2_with fail
  go_ret
  exact ⟨HE.out.symm, Below.refl _ _⟩
set_option maxHeartbeats 1000000 in
theorem specRange_any (k l : Int) (w : World) : Calls Tryz.prog 71 #[.int .i64 k, .int .i64 l] w fun e w' => e = .returned (.bool (rangeB k l)) ∧ Below w.heap.size w w' := by
 cases hk : inB k 1 3
 ·have HE := Lib.hid (ret_bool (show rangeB k l = false by unfold rangeB; rw [hk]; rfl))
  have HC : Hid (Calls Tryz.prog 52 #[.int .i64 k, .int .i64 1, .int .i64 3] w fun e w' => e = .returned (.bool false) ∧ w = w') := Lib.hid (by have := l1In_any k 1 3 w; rwa [hk] at this)
  clear hk
  go_enter Tryz.func71, Tryz.ntmps71
  go_wp2_with fail
  refine HC.out.mono ?_
  rintro e w1 ⟨rfl, rfl⟩
  go_wp2_with fail
  go_ret
  exact ⟨HE.out.symm, Below.refl _ _⟩
 ·have hk2 : 1 ≤ k ∧ k ≤ 3 := by simpa [inB] using hk
  have HC : Hid (Calls Tryz.prog 52 #[.int .i64 k, .int .i64 1, .int .i64 3] w fun e w' => e = .returned (.bool true) ∧ w = w') := Lib.hid (by have := l1In_any k 1 3 w; rwa [hk] at this)
  have HE := Lib.hid (show rangeB k l = (decide (0 ≤ l) && decide (l < 2 * k)) by
   unfold rangeB; rw [hk, Bool.true_and]; unfold inB
   rw [show decide (l ≤ 2 * k - 1) = decide (l < 2 * k) from decide_eq_decide.2 (by omega)])
  clear hk
  by_cases h1 : 0 ≤ l
  ·by_cases h2 : l < 2 * k
   ·go_enter Tryz.func71, Tryz.ntmps71
    go_wp2_with fail
    refine HC.out.mono ?_
    rintro e w1 ⟨rfl, rfl⟩
    go_wp2_with fail
    go_ret
    exact ⟨by rw [HE.out]; simp [h1, h2], Below.refl _ _⟩
   ·go_enter Tryz.func71, Tryz.ntmps71
    go_wp2_with fail
    refine HC.out.mono ?_
    rintro e w1 ⟨rfl, rfl⟩
    go_wp2_with fail
    go_ret
    exact ⟨by rw [HE.out]; simp [h1, h2], Below.refl _ _⟩
  ·go_enter Tryz.func71, Tryz.ntmps71
   go_wp2_with fail
   refine HC.out.mono ?_
   rintro e w1 ⟨rfl, rfl⟩
   go_wp2_with fail
   go_ret
   exact ⟨by rw [HE.out, decide_eq_false (show ¬ 0 ≤ l by omega)]; rfl, Below.refl _ _⟩

theorem and_low (y : Int) (k : Nat) (hk : k < 63) : bits .and .i64 y (2 ^ k - 1) = y % 2 ^ k := by
 have h1 : (BitVec.ofInt 64 (2 ^ k - 1 : Int)).toNat = 2 ^ k - 1 := by
  have e : (2 ^ k - 1 : Int) = ((2 ^ k - 1 : Nat) : Int) := by rw [Int.natCast_sub Nat.one_le_two_pow, Int.natCast_pow]; rfl
  have hlt : 2 ^ k < 2 ^ 64 := Nat.pow_lt_pow_right (by decide) (by omega)
  rw [e, BitVec.ofInt_natCast, BitVec.toNat_ofNat, Nat.mod_eq_of_lt (by omega)]
 have key : (BitVec.ofInt 64 y &&& BitVec.ofInt 64 (2 ^ k - 1 : Int)).toNat = (y % ((2 ^ 64 : Nat) : Int)).toNat % 2 ^ k := by
  rw [BitVec.toNat_and, BitVec.toNat_ofInt, h1, Nat.and_two_pow_sub_one_eq_mod]
 show IntKind.i64.wrap ((BitVec.ofInt 64 y &&& BitVec.ofInt 64 (2 ^ k - 1 : Int)).toNat : Nat) = y % 2 ^ k
 have h2 : ((y % ((2 ^ 64 : Nat) : Int)).toNat % 2 ^ k : Nat) < 2 ^ k := Nat.mod_lt _ (Nat.two_pow_pos k)
 have hk2 : (2 : Nat) ^ k ≤ 2 ^ 62 := Nat.pow_le_pow_right (by decide) (by omega)
 have h3 : 0 ≤ y % ((2 ^ 64 : Nat) : Int) := Int.emod_nonneg _ (by decide)
 have h5 : (((y % ((2 ^ 64 : Nat) : Int)).toNat % 2 ^ k : Nat) : Int) = y % 2 ^ k := by
  rw [Int.natCast_emod, Int.toNat_of_nonneg h3, Int.natCast_pow]
  have h4 : ((2 : Int) ^ k) ∣ ((2 ^ 64 : Nat) : Int) := by
   refine ⟨((2 ^ (64 - k) : Nat) : Int), ?_⟩
   rw [Int.natCast_pow, Int.natCast_pow]
   show (2 : Int) ^ 64 = 2 ^ k * 2 ^ (64 - k)
   rw [← Int.pow_add]
   congr 1
   omega
  exact Int.emod_emod_of_dvd y h4
 rw [key, ← h5]
 generalize (y % ((2 ^ 64 : Nat) : Int)).toNat % 2 ^ k = m at *
 rw [IntKind.wrap_i64]
 have : m < 2 ^ 62 := by omega
 omega
theorem and255 (y : Int) : bits .and .i64 y 255 = y % 256 := and_low y 8 (by decide)
structure Drw (W0 w : World) (g : Nat) (ca : Option Addr) (n cap : Nat) (l : List Int) : Prop where
 bel : Below W0.heap.size W0 w
 low : W0.heap.size ≤ g
 hi : g < w.heap.size
 c0 : w.cell? ⟨g, 0, none⟩ = some (.slice ca n cap)
 c1 : ∃ i : Nat, i ≤ n ∧ w.cell? ⟨g, 1, none⟩ = some (.int .i64 (i : Int))
 c2 : ∃ h : Int, w.cell? ⟨g, 2, none⟩ = some (.int .i64 h)
 f1 : w.frozen? ⟨g, 1, none⟩ = false
 f2 : w.frozen? ⟨g, 2, none⟩ = false
theorem Drw.kept {S : Nat → Prop} {W0 w w' : World} {g n cap : Nat} {ca : Option Addr} {l : List Int} (h : Drw W0 w g ca n cap l) (hk : Kept S w w') (hg : ¬ S g) (hS : ∀ b, b < W0.heap.size → ¬ S b) : Drw W0 w' g ca n cap l where
 bel := h.bel.trans (hk.below h.bel.size hS)
 low := h.low
 hi := Nat.lt_of_lt_of_le h.hi hk.size
 c0 := (hk.cell h.hi hg).trans h.c0
 c1 := by obtain ⟨i, h1, h2⟩ := h.c1; exact ⟨i, h1, (hk.cell h.hi hg).trans h2⟩
 c2 := by obtain ⟨i, h2⟩ := h.c2; exact ⟨i, (hk.cell h.hi hg).trans h2⟩
 f1 := (hk.frozen h.hi hg).trans h.f1
 f2 := (hk.frozen h.hi hg).trans h.f2
theorem Drw.below {W0 w w' : World} {g n cap : Nat} {ca : Option Addr} {l : List Int} (h : Drw W0 w g ca n cap l) (hb : Below w.heap.size w w') : Drw W0 w' g ca n cap l := h.kept (Kept.of_below (S := fun _ => False) hb) id fun _ _ => id
theorem Drw.set1 {W0 w : World} {g n cap : Nat} {ca : Option Addr} {l : List Int} (h : Drw W0 w g ca n cap l) {i : Nat} (hi : i ≤ n) : Drw W0 (w.setCell ⟨g, 1, none⟩ (.int .i64 (i : Int))) g ca n cap l where
 bel := h.bel.setCell (p := ⟨g, 1, none⟩) h.low _
 low := h.low
 hi := by simpa using h.hi
 c0 := (World.cell?_setCell_other _ _ _ _ (by simp)).trans h.c0
 c1 := ⟨i, hi, by obtain ⟨j, _, h2⟩ := h.c1; exact World.cell?_setCell_same _ _ _ h2⟩
 c2 := by obtain ⟨j, h2⟩ := h.c2; exact ⟨j, (World.cell?_setCell_other _ _ _ _ (by simp)).trans h2⟩
 f1 := by rw [World.frozen?_setCell]; exact h.f1
 f2 := by rw [World.frozen?_setCell]; exact h.f2
theorem Drw.set2 {W0 w : World} {g n cap : Nat} {ca : Option Addr} {l : List Int} (h : Drw W0 w g ca n cap l) (x : Int) : Drw W0 (w.setCell ⟨g, 2, none⟩ (.int .i64 x)) g ca n cap l where
 bel := h.bel.setCell (p := ⟨g, 2, none⟩) h.low _
 low := h.low
 hi := by simpa using h.hi
 c0 := (World.cell?_setCell_other _ _ _ _ (by simp)).trans h.c0
 c1 := by obtain ⟨j, h1, h2⟩ := h.c1; exact ⟨j, h1, (World.cell?_setCell_other _ _ _ _ (by simp)).trans h2⟩
 c2 := ⟨x, by obtain ⟨j, h2⟩ := h.c2; exact World.cell?_setCell_same _ _ _ h2⟩
 f1 := by rw [World.frozen?_setCell]; exact h.f1
 f2 := by rw [World.frozen?_setCell]; exact h.f2
def RetDi (W0 w : World) (g : Nat) (ca : Option Addr) (n cap : Nat) (l : List Int) (lo hi : Int) (e : Ending) (w' : World) : Prop := ∃ x : Int, (lo ≤ x ∧ x ≤ hi) ∧ e = .returned (.int .i64 x) ∧ Drw W0 w' g ca n cap l ∧ Kept (fun b => b = g) w w'
set_option maxHeartbeats 4000000 in
theorem l1Byte_at (W0 w : World) (g : Nat) (ca : Option Addr) (n cap : Nat) (l : List Int) (hB : BytesAt W0 ca n l) (hn : n ≤ 1099511627776) (h : Drw W0 w g ca n cap l) : Calls Tryz.prog 123 #[.pointer (some ⟨g, 0, none⟩)] w (RetDi W0 w g ca n cap l 0 255) := by
 have hwd := @Wd.cells
 have HB := Lib.hid hB
 obtain ⟨i, hi, ci⟩ := h.c1
 obtain ⟨H, cH⟩ := h.c2
 have zg := h.hi
 have f1 := h.f1
 have f2 := h.f2
 have c0 := h.c0
 have D := Lib.hid h
 clear h hB
 go_enter Tryz.func123, Tryz.ntmps123
 go_wp2_with fail
 have D1 := Lib.hid (D.out.set2 (wrap64 (wrap64 (H * 6364136223846793005) + 1442695040888963407)))
 have e2 : (w.setCell ⟨g, 2, none⟩ (.int .i64 (wrap64 (wrap64 (H * 6364136223846793005) + 1442695040888963407)))).cell? ⟨g, 2, none⟩ = some (.int .i64 (wrap64 (wrap64 (H * 6364136223846793005) + 1442695040888963407))) := World.cell?_setCell_same _ _ _ cH
 have e1 : (w.setCell ⟨g, 2, none⟩ (.int .i64 (wrap64 (wrap64 (H * 6364136223846793005) + 1442695040888963407)))).cell? ⟨g, 1, none⟩ = some (.int .i64 (i : Int)) := (World.cell?_setCell_other _ _ _ _ (by simp)).trans ci
 have k1 : Kept (fun b => b = g) w (w.setCell ⟨g, 2, none⟩ (.int .i64 (wrap64 (wrap64 (H * 6364136223846793005) + 1442695040888963407)))) := ⟨rfl, rfl, rfl, by simp, fun k hk hs => by simp [World.setCell, Array.getElem?_modify]; intro e; exact absurd e.symm hs⟩
 clear D ci cH zg f1 f2 c0
 generalize wrap64 (wrap64 (H * 6364136223846793005) + 1442695040888963407) = Y at *
 generalize w.setCell ⟨g, 2, none⟩ (.int .i64 Y) = w1 at *
 have zg := D1.out.hi
 have hx := and255 (bits BinOp.xor IntKind.i64 (Y / 8589934592) (Y / 35184372088832))
 refine wp_region_wd (by kernel_rfl) (by kernel_rfl) ?_
 repeat (go_big_quiet_step (fail))
 refine wpQuiet_nil ?_
 intro n1
 clear hx
 have hx0 : 0 ≤ bits BinOp.xor IntKind.i64 (Y / 8589934592) (Y / 35184372088832) % 256 ∧ bits BinOp.xor IntKind.i64 (Y / 8589934592) (Y / 35184372088832) % 256 ≤ 255 := by omega
 generalize bits BinOp.xor IntKind.i64 (Y / 8589934592) (Y / 35184372088832) % 256 = x at *
 have D2 := Lib.hid (D1.out.below n1.h)
 have k2 := k1.trans (Kept.of_below n1.h)
 have d1 := (n1.h.cell (p := ⟨g, 1, none⟩) zg).trans e1
 clear D1 k1 e1 e2 zg
 generalize n1.w = w2 at *
 clear n1
 have d0 := D2.out.c0
 have zg := D2.out.hi
 by_cases hin : i < n
 ·have hii : (i : Int) < (n : Int) := by omega
  have hi0 : (0 : Int) ≤ (i : Int) := by omega
  obtain ⟨b, off, y, rfl, hb, hy, hcy, hy0, hy1⟩ := (HB.out.below D2.out.bel).2 i hin
  go_wp2_with fail
  refine wp_region_wd (by kernel_rfl) (by kernel_rfl) ?_
  repeat (go_big_quiet_step (fail))
  refine wpQuiet_nil ?_
  intro n1
  have D3 := Lib.hid (D2.out.below n1.h)
  have k3 := k2.trans (Kept.of_below n1.h)
  have g1 := (n1.h.cell (p := ⟨g, 1, none⟩) zg).trans d1
  have gy := (n1.h.cell (p := ⟨b, off + i, none⟩) hb).trans hcy
  have hb3 := Nat.lt_of_lt_of_le hb n1.h.size
  clear D2 k2 d0 d1 zg hb hcy
  generalize n1.w = w3 at *
  clear n1 w2
  have d0 := D3.out.c0
  have zg := D3.out.hi
  have ha := and255 (x + y)
  have hadd := IntWalk.i64_in (x + y) (by omega)
  go_wp2_with fail
  refine wp_region_wd (by kernel_rfl) (by kernel_rfl) ?_
  repeat (go_big_quiet_step (fail))
  refine wpQuiet_nil ?_
  intro n1
  clear ha hadd
  have hz0 : 0 ≤ (x + y) % 256 ∧ (x + y) % 256 ≤ 255 := by omega
  generalize (x + y) % 256 = z at *
  have D4 := Lib.hid (D3.out.below n1.h)
  have k4 := k3.trans (Kept.of_below n1.h)
  have e1 := (n1.h.cell (p := ⟨g, 1, none⟩) zg).trans g1
  clear D3 k3 d0 g1 gy zg hb3
  generalize n1.w = w4 at *
  clear n1 w3
  have zg := D4.out.hi
  have f1 := D4.out.f1
  have D5 := Lib.hid (D4.out.set1 (i := i + 1) (by omega))
  have k5 : Kept (fun b => b = g) w (w4.setCell ⟨g, 1, none⟩ (.int .i64 ((i : Int) + 1))) := k4.trans ⟨rfl, rfl, rfl, by simp, fun k hk hs => by simp [World.setCell, Array.getElem?_modify]; intro e; exact absurd e.symm hs⟩
  rw [show ((i + 1 : Nat) : Int) = (i : Int) + 1 by omega] at D5
  go_wp2_with fail
  go_ret
  exact ⟨z, hz0, rfl, D5.out, k5⟩
 ·have hii : ¬ (i : Int) < (n : Int) := by omega
  go_wp2_with fail
  refine wp_region_wd (by kernel_rfl) (by kernel_rfl) ?_
  repeat (go_big_quiet_step (fail))
  refine wpQuiet_nil ?_
  intro n1
  have D3 := Lib.hid (D2.out.below n1.h)
  have k3 := k2.trans (Kept.of_below n1.h)
  clear D2 k2 d0 d1 zg
  generalize n1.w = w3 at *
  clear n1 w2
  go_wp2_with fail
  go_ret
  exact ⟨x, hx0, rfl, D3.out, k3⟩
theorem emod_rng {x n : Int} (h : 0 ≤ x) (hn : 0 < n) : 0 ≤ x % n ∧ x % n ≤ n - 1 := by
 have h1 := Int.emod_nonneg x (show n ≠ 0 by omega)
 have h2 := Int.emod_lt_of_pos x hn
 omega
set_option maxHeartbeats 4000000 in
theorem l1Below_at (W0 w : World) (g : Nat) (ca : Option Addr) (n cap : Nat) (l : List Int) (hB : BytesAt W0 ca n l) (hn : n ≤ 1099511627776) (h : Drw W0 w g ca n cap l) (m : Int) (hm : 1 ≤ m ∧ m ≤ 256) : Calls Tryz.prog 88 #[.pointer (some ⟨g, 0, none⟩), .int .i64 m] w (RetDi W0 w g ca n cap l 0 (m - 1)) := by
 have HC := Lib.hid (l1Byte_at W0 w g ca n cap l hB hn h)
 have hm1 : ¬ m ≤ 0 := by omega
 have hm2 : m ≤ 256 := hm.2
 clear h hB
 go_enter Tryz.func88, Tryz.ntmps88
 go_wp2_with fail
 refine HC.out.mono ?_
 rintro e w1 ⟨x, hx, rfl, d1, k1⟩
 have D1 := Lib.hid d1
 have K1 := Lib.hid k1
 have HR := Lib.hid (emod_rng hx.1 (show 0 < m by omega))
 have hne : (m == 0) = false := by rw [beq_eq_false_iff_ne]; omega
 clear d1 k1 HC
 go_wp2_with fail
 go_ret
 exact ⟨_, HR.out, rfl, D1.out, K1.out⟩

end Go.Proofs.YtfbmpkdjhhcnpaaGreat

