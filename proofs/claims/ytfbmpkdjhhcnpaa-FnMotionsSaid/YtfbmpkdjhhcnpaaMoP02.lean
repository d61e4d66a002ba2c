/- Reading an argument of type []int. -/
import Derived.Test.YtfbmpkdjhhcnpaaMoP01
import Derived.ProofKit
import Derived.OpenShut
import Derived.Deep.RegionLaw
import Derived.Maps.AppendAt
import Derived.Deep.RegionHeld3
namespace Go.Proofs.Ytfbmpkdjhhcnpaa
open Go.ChangeShapes Go.WideShapes Go.ChangeAt Go.RowKit
set_option maxRecDepth 100000


theorem addr_add (b off k : Nat) : (⟨b, off, none⟩ : Addr).add k = ⟨b, off + k, none⟩ := Addr.add_lit _ _ _

theorem rd_ints {H : Type} {enc : TypeId × Value → H} {W : World} {b0 base : Nat} {spare : Nat → Bool} {held : Bool} {r : Reach} {v : Value} {d : DataW H} {p : List MemPlace}
    (hv : Value.okWide Try.prog W r b0 35 v) (h : DataW.Trod enc Try.prog W base spare held 35 v d p) : ∃ x, IsInts W v x ∧ OkInts x := by
  obtain ⟨a0, len0, cap0, rfl⟩ := okWide_slice Try.underlying35 hv
  obtain ⟨fuel, hf⟩ := h
  rcases open_ints Try.underlying35 Try.underlying3 (by kernel_rfl) hf with ⟨hcs, _⟩ | ⟨x, l, c, zs, hcs, _, hl, hm, hz, _, hcell, hwz⟩
  · simp [Value.cells] at hcs
    obtain ⟨rfl, rfl, rfl⟩ := hcs
    exact ⟨[], ⟨none, 0, rfl, IntsAt.nil _ _⟩, by simp, by simp⟩
  · simp [Value.cells] at hcs
    obtain ⟨rfl, rfl, rfl⟩ := hcs
    have hzl : len0 ≤ zs.length := by rw [hz]; split <;> omega
    have hll : (zs.take len0).length = len0 := by simp; omega
    suffices hI : IntsAt W (some x) len0 (zs.take len0) from ⟨zs.take len0, ⟨some x, cap0, by rw [hll], by rw [hll]; exact hI⟩, by unfold maxLen at hm; omega, fun y hy => bounds_i64 (hwz y (List.mem_of_mem_take hy))⟩
    refine ⟨hll, fun k hk => ?_⟩
    have hc := hcell k (by omega)
    obtain ⟨b, off, spot⟩ := x
    have hspot : spot = none := by simpa [Addr.add] using World.cell?_spot (hcell 0 (by omega))
    subst hspot
    rw [addr_add] at hc
    refine ⟨b, off, zs[k]'(by omega), rfl, World.block_lt_of_cell? W _ hc, ?_, ?_⟩
    · rw [List.getElem?_take, if_pos hk]
      exact List.getElem?_eq_getElem _
    · rw [hc]
      simp [List.getD, show k < zs.length by omega]
end Go.Proofs.Ytfbmpkdjhhcnpaa

namespace Go.Proofs.Ytfbmpkdjhhcnpaa
open Go.ChangeShapes Go.WideShapes Go.ChangeAt Go.RowKit
set_option maxRecDepth 100000
def BytesAt (W : World) (a : Option Addr) (n : Nat) (l : List Int) : Prop :=
  l.length = n ∧ ∀ k, k < n → ∃ b off x, a = some ⟨b, off, none⟩ ∧ b < W.heap.size ∧ l[k]? = some x ∧ W.cell? ⟨b, off + k, none⟩ = some (.int .u8 x) ∧ 0 ≤ x ∧ x ≤ 255
theorem BytesAt.below {W W' : World} {a : Option Addr} {n : Nat} {l : List Int} (h : BytesAt W a n l) (hk : Below W.heap.size W W') : BytesAt W' a n l :=
  ⟨h.1, fun k hkn => by
    obtain ⟨b, off, x, h1, h2, h3, h4, h5⟩ := h.2 k hkn
    exact ⟨b, off, x, h1, Nat.lt_of_lt_of_le h2 hk.size, h3, (hk.cell (p := ⟨b, off + k, none⟩) h2).trans h4, h5⟩⟩
def IsBytes (W : World) (v : Value) (l : List Int) : Prop := ∃ a cap, v = .slice a l.length cap ∧ BytesAt W a l.length l
def OkBytes (l : List Int) : Prop := l.length ≤ 9223372036854775807
theorem rd_bytes {H : Type} {enc : TypeId × Value → H} {W : World} {b0 base : Nat} {spare : Nat → Bool} {held : Bool} {r : Reach} {v : Value} {d : DataW H} {p : List MemPlace}
    (hv : Value.okWide Try.prog W r b0 22 v) (h : DataW.Trod enc Try.prog W base spare held 22 v d p) : ∃ x, IsBytes W v x ∧ OkBytes x := by
  obtain ⟨a0, len0, cap0, rfl⟩ := okWide_slice Try.underlying22 hv
  obtain ⟨fuel, hf⟩ := h
  rcases open_ints Try.underlying22 Try.underlying5 (by kernel_rfl) hf with ⟨hcs, _⟩ | ⟨x, l, c, zs, hcs, _, hl, hm, hz, _, hcell, hwz⟩
  · simp [Value.cells] at hcs
    obtain ⟨rfl, rfl, rfl⟩ := hcs
    exact ⟨[], ⟨none, 0, rfl, rfl, fun k hk => absurd hk (Nat.not_lt_zero _)⟩, by simp [OkBytes]⟩
  · simp [Value.cells] at hcs
    obtain ⟨rfl, rfl, rfl⟩ := hcs
    have hzl : len0 ≤ zs.length := by rw [hz]; split <;> omega
    have hll : (zs.take len0).length = len0 := by simp; omega
    suffices hI : BytesAt W (some x) len0 (zs.take len0) from ⟨zs.take len0, ⟨some x, cap0, by rw [hll], by rw [hll]; exact hI⟩, by unfold OkBytes; unfold maxLen at hm; omega⟩
    refine ⟨hll, fun k hk => ?_⟩
    have hc := hcell k (by omega)
    obtain ⟨b, off, spot⟩ := x
    have hspot : spot = none := by simpa [Addr.add] using World.cell?_spot (hcell 0 (by omega))
    subst hspot
    rw [addr_add] at hc
    have hb8 := bounds_u8 (hwz (zs[k]'(by omega)) (List.getElem_mem _))
    refine ⟨b, off, zs[k]'(by omega), rfl, World.block_lt_of_cell? W _ hc, ?_, ?_, hb8⟩
    · rw [List.getElem?_take, if_pos hk]
      exact List.getElem?_eq_getElem _
    · rw [hc]
      simp [List.getD, show k < zs.length by omega]
end Go.Proofs.Ytfbmpkdjhhcnpaa

namespace Go.Proofs.Ytfbmpkdjhhcnpaa
open Go.RowKit
set_option maxRecDepth 100000
set_option linter.unusedVariables false
set_option linter.unusedSimpArgs false

/-- 'out[k] = v': v's cells are written into the row. -/
theorem run_store_elem {P : Program} (w : World) (t e : TypeId) (i : TypeInfo) (size : Nat) (hinfo : P.info? t = some i) (hsize : i.size = size) (base g n cap : Nat) (xs : List Value)
    (hown : w.ownsRow base e size (.slice (some ⟨g, 0, none⟩) n cap) n xs) (k off : Nat) (hk : k < n) (hoff : off = k * size) (v : Value) (news : List Value) (hv : v.cells.toList = news) (hl : news.length = size) (h1 : ∀ u ∈ news, u.oneCell' = true) :
    ∃ w', (Instr.storeAt t (.pointer (some ⟨g, off, none⟩)) v).run P w = .ok () w' ∧
      w'.ownsRow base e size (.slice (some ⟨g, 0, none⟩) n cap) n (xs.take (k * size) ++ news ++ xs.drop (k * size + size)) ∧ w.grownBy w' (some g) := by
  subst hsize hoff
  rcases hown.2 with ⟨h, _⟩ | ⟨g', cap', cur, h, hbg, hg, hnc, hcm, hcs, htake⟩
  · simp at h
  simp only [Value.slice.injEq, Option.some.injEq, Addr.mk.injEq, and_true, true_and] at h
  obtain ⟨rfl, rfl⟩ := h
  have hle : k * i.size + i.size ≤ n * i.size := by rw [← Nat.succ_mul]; exact Nat.mul_le_mul_right _ hk
  have hle2 : n * i.size ≤ cap * i.size := Nat.mul_le_mul_right _ hnc
  have hst := run_storeCells_at P g (k * i.size) e news 0 cur w hg (by rw [hl, hcs]; omega) h1
  simp only [Nat.add_zero] at hst
  have hsz : v.cells.size = i.size := by rw [← hl, ← hv]; simp
  refine ⟨w.setRow g (cur.toList.take (k * i.size) ++ news ++ cur.toList.drop (k * i.size + news.length)).toArray, ?_, ?_, ?_⟩
  · simp [Instr.storeAt, Instr.sureAddr, asAddr, storeVar, sizeOf, typeInfo, hinfo, hsz, hv, hst]
  · refine ⟨?_, .inr ⟨g, cap, _, rfl, hbg, setRow_heap w g cur _ e _ hg, hnc, hcm, ?_, ?_⟩⟩
    · have := hown.1
      simp [hl]; omega
    · simp [hl]; omega
    · rw [← htake, hl]
      have hlc : cur.toList.length = cap * i.size := by simpa using hcs
      generalize cur.toList = c at *
      simp only [List.take_append, List.take_take, List.length_take, List.length_append, hl, List.drop_take]
      rw [List.take_of_length_le (l := news) (by rw [hl]; omega)]
      congr 2
      · congr 1; omega
      · congr 1; omega
  · exact ⟨rfl, rfl, rfl, by simp, fun j _ hj => setRow_other w g j _ (fun e => hj (by simp [e]))⟩

theorem wpList_store_elem {P : Program} (w : World) {ops : Array Oper} {rest : List Oper} {o : Oper} {a : Act} {Q : Exit → Act → World → Prop} (hgd : o.guard = none) (hdst : o.dst = none) (t : TypeId) (p x : Operand) (ho : o.op = .store t p x)
    (e : TypeId) (i : TypeInfo) (size : Nat) (hinfo : P.info? t = some i) (hsize : i.size = size) (base g n cap : Nat) (xs : List Value)
    (hown : w.ownsRow base e size (.slice (some ⟨g, 0, none⟩) n cap) n xs) (k off : Nat) (hk : k < n) (hp : a.eval p = .pointer (some ⟨g, off, none⟩)) (hoff : off = k * size) (v : Value) (hx : a.eval x = v) (news : List Value) (hv : v.cells.toList = news) (hl : news.length = size) (h1 : ∀ u ∈ news, u.oneCell' = true)
    (hK : ∀ w', w'.ownsRow base e size (.slice (some ⟨g, 0, none⟩) n cap) n (xs.take (k * size) ++ news ++ xs.drop (k * size + size)) → w.grownBy w' (some g) → wpList P ops Q rest a w') :
    wpList P ops Q (o :: rest) a w := by
  refine wpList_plain hgd fun K hK' => ?_
  obtain ⟨w', hr, h2, h3⟩ := run_store_elem (P := P) w t e i size hinfo hsize base g n cap xs hown k off hk hoff v news hv hl h1
  unfold Oper.wp execOp
  simp only [ho, hp, hx, Sem.run_bind, hr, Result.andThen_ok, Sem.run_pure, Oper.upon_skip, Act.put, hdst]
  exact hK' _ _ (hK w' h2 h3)

section flat
variable {α β : Type} {f : Nat} {c : α → List β}
theorem flat_length (hc : ∀ a, (c a).length = f) (l : List α) : (l.flatMap c).length = l.length * f := by
  induction l with
  | nil => simp
  | cons a l ih => simp [List.flatMap_cons, ih, hc, Nat.succ_mul]; omega
theorem flat_take (hc : ∀ a, (c a).length = f) (l : List α) (k : Nat) : (l.flatMap c).take (k * f) = (l.take k).flatMap c := by
  induction l generalizing k with
  | nil => simp
  | cons a l ih =>
    cases k with
    | zero => simp
    | succ k =>
      rw [List.flatMap_cons, List.take_append, List.take_of_length_le (by rw [hc, Nat.succ_mul]; omega), hc, Nat.succ_mul, Nat.add_sub_cancel, ih]
      simp
theorem flat_drop (hc : ∀ a, (c a).length = f) (l : List α) (k : Nat) : (l.flatMap c).drop (k * f) = (l.drop k).flatMap c := by
  induction l generalizing k with
  | nil => simp
  | cons a l ih =>
    cases k with
    | zero => simp
    | succ k =>
      rw [List.flatMap_cons, List.drop_append, List.drop_of_length_le (by rw [hc, Nat.succ_mul]; omega), hc, Nat.succ_mul, Nat.add_sub_cancel, ih]
      simp
theorem flat_get (hc : ∀ a, (c a).length = f) {l : List α} {k j : Nat} {a : α} (h : l[k]? = some a) (hj : j < f) : (l.flatMap c)[k * f + j]? = (c a)[j]? := by
  rw [← List.getElem?_drop, flat_drop hc]
  obtain ⟨hk, rfl⟩ := List.getElem?_eq_some_iff.1 h
  rw [List.drop_eq_getElem_cons hk, List.flatMap_cons, List.getElem?_append_left (by rw [hc]; exact hj)]
theorem flat_set (hc : ∀ a, (c a).length = f) {l : List α} {k : Nat} {a : α} (hk : k < l.length) : (l.flatMap c).take (k * f) ++ c a ++ (l.flatMap c).drop (k * f + f) = (l.set k a).flatMap c := by
  rw [flat_take hc, ← Nat.succ_mul, flat_drop hc, List.set_eq_take_append_cons_drop, if_pos hk]
  simp [List.flatMap_append, List.flatMap_cons]
end flat

/-- made and not yet filled: k filled of n -/
theorem take_rep_set_any {α : Type} {l : List α} {z : α} {n k : Nat} {x : α} (hl : l.length = n) (hx : l[k]? = some x) :
    (l.take k ++ List.replicate (n - k) z).set k x = l.take (k + 1) ++ List.replicate (n - (k + 1)) z := by
  have hk := lt_of_getElem? hx
  rw [take_succ_of hx, List.set_append_right _ _ (by simp; omega)]
  obtain ⟨m, hm⟩ : ∃ m, n - k = m + 1 := ⟨n - k - 1, by omega⟩
  have h1 : k - min k l.length = 0 := by omega
  have h2 : n - (k + 1) = m := by omega
  simp [hm, h1, h2, List.replicate_succ]

theorem seg_set {α : Type} (L : List α) (p : Nat) (pre : List α) (b : α) (h : p + pre.length < L.length) :
    (L.take p ++ pre ++ L.drop (p + pre.length)).set (p + pre.length) b = L.take p ++ (pre ++ [b]) ++ L.drop (p + (pre.length + 1)) := by
  rw [List.set_append_right _ _ (by simp; omega)]
  obtain ⟨x, s, h1, h2⟩ : ∃ x s, L.drop (p + pre.length) = x :: s ∧ L.drop (p + pre.length + 1) = s := ⟨_, _, List.drop_eq_getElem_cons h, rfl⟩
  rw [← Nat.add_assoc, h1, h2]
  have h3 : p + pre.length - (L.take p ++ pre).length = 0 := by simp; omega
  rw [h3]
  simp
theorem all_take_succ {α : Type} {p : α → Bool} {l : List α} {k : Nat} {x : α} (h : l[k]? = some x) (hp : (l.take k).all p = true) (hx : p x = true) : (l.take (k + 1)).all p = true := by
  rw [take_succ_of h, List.all_append, hp]; simp [hx]

/-- the first j changed by f -/
def mapTo (f : Int → Int) (l : List Int) (j : Nat) : List Int := (l.take j).map f ++ l.drop j
theorem mapTo_length {f : Int → Int} {l : List Int} {j : Nat} : (mapTo f l j).length = l.length := by simp [mapTo]; omega
theorem mapTo_get {f : Int → Int} {l : List Int} {j : Nat} {x : Int} (h : l[j]? = some x) : (mapTo f l j)[j]? = some x := by
  have := lt_of_getElem? h
  unfold mapTo
  rw [List.getElem?_append_right (by simp; omega)]
  simp [Nat.min_eq_left (Nat.le_of_lt this), h]
theorem mapTo_succ {f : Int → Int} {l : List Int} {j : Nat} {x : Int} (h : l[j]? = some x) : (mapTo f l j).set j (f x) = mapTo f l (j + 1) := by
  have hj := lt_of_getElem? h
  unfold mapTo
  rw [take_succ_of h, List.set_append_right _ _ (by simp; omega)]
  obtain ⟨y, s, h1, h2⟩ : ∃ y s, l.drop j = y :: s ∧ l.drop (j + 1) = s := ⟨_, _, List.drop_eq_getElem_cons hj, rfl⟩
  rw [h1, h2]
  simp [Nat.min_eq_left (Nat.le_of_lt hj)]
theorem mapTo_all {f : Int → Int} {l : List Int} : mapTo f l l.length = l.map f := by simp [mapTo]
end Go.Proofs.Ytfbmpkdjhhcnpaa

namespace Go.Proofs.Ytfbmpkdjhhcnpaa
open Go.RowKit
set_option maxRecDepth 100000
set_option linter.unusedVariables false
set_option linter.unusedSimpArgs false

theorem run_append_noneAny {P : Program} (w : World) (base : Nat) (t ty e : TypeId) (i : TypeInfo) (size : Nat) (ht : P.underlying t = some (.slice e)) (hi : P.info? e = some i)
    (v : Value) (n : Nat) (xs : List Value) (hown : w.ownsRow base e size v n xs) (c : Nat) :
    (Builtin.append_ #[t, t] ty #[v, .slice none 0 c]).run P w = .ok v w := by
  rcases hown.2 with ⟨rfl, rfl⟩ | ⟨g, cap, cur, rfl, _, _, hnc, _⟩
  · simp [Builtin.append_, run_underlying ht, sizeOf, typeInfo, hi, Builtin.lenOf, Builtin.firstCells]
  · simp [Builtin.append_, run_underlying ht, sizeOf, typeInfo, hi, Builtin.lenOf, Builtin.firstCells, hnc, storeCells]

theorem wpList_append_all {P : Program} (w : World) {ops : Array Oper} {rest : List Oper} {o : Oper} {a : Act} {Q : Exit → Act → World → Prop} (hgd : o.guard = none) (s x : Operand) (t : TypeId)
    (ho : o.op = .call { callee := .builtin .append, args := #[s, x], argTypes := #[t, t] })
    (base : Nat) (e : TypeId) (i : TypeInfo) (z : Value) (size bytes : Nat) (ht : P.underlying t = some (.slice e)) (hi : P.info? e = some i) (hz : i.zero = some z)
    (hsize : i.size = size) (hby : i.bytes = bytes) (hzs : z.cells.size = size) (hsz : 0 < size)
    (v : Value) (n : Nat) (xs : List Value) (hs : a.eval s = v) (hown : w.ownsRow base e size v n xs)
    (ao : Option Addr) (m c : Nat) (news : List Value) (hx : a.eval x = .slice ao m c) (hl : news.length = m * size)
    (hsrc : ∀ j u, news[j]? = some u → ∃ b off, ao = some ⟨b, off, none⟩ ∧ w.cell? ⟨b, off + j, none⟩ = some u) (h1 : ∀ u ∈ news, u.oneCell' = true)
    (h63 : n + m ≤ maxLen) (hbytes : (n + m) * bytes ≤ 140737488355328) (hbase : base ≤ w.heap.size)
    (hK : ∀ v' w', w'.ownsRow base e size v' (n + m) (xs ++ news) → w.grownBy w' v.ownBlock → wpList P ops Q rest (a.put o.dst v') w') : wpList P ops Q (o :: rest) a w := by
  cases ao with
  | some ad =>
    refine wpList_append_own w hgd s x t ho base e i z size bytes ht hi hz hsize hby hzs hsz v n xs hs hown ad m c news hx hl ?_ h1 h63 hbytes hbase fun v' w' h2 h3 _ => hK v' w' h2 h3
    intro j u hu
    obtain ⟨b, off, hb, hc⟩ := hsrc j u hu
    cases hb
    rw [Addr.add_lit]
    exact hc
  | none =>
    have hn : news = [] := by
      cases news with
      | nil => rfl
      | cons u r =>
        obtain ⟨b, off, hb, _⟩ := hsrc 0 u rfl
        cases hb
    subst hn
    obtain rfl : m = 0 := by
      rcases Nat.eq_zero_or_pos m with h | h
      · exact h
      · have := Nat.mul_pos h hsz
        simp at hl
        omega
    refine wpList_plain hgd fun K hK' => ?_
    have hr := run_append_noneAny (P := P) w base t o.type e i size ht hi v n xs hown c
    unfold Oper.wp execOp
    simp only [ho, resolve, invoke, builtin, Sem.run_bind, Sem.run_pure, Result.andThen_ok, List.map_toArray, List.map_cons, List.map_nil, hs, hx, hr]
    exact hK' _ _ (hK v w (by simpa using hown) (World.grownBy.refl _ _))

/-- of ints -/
theorem appAll {w : World} {ops : Array Oper} {rest : List Oper} {o : Oper} {a : Act} {Q : Exit → Act → World → Prop} (hg : o.guard = none) (s x : Operand)
    (ho : o.op = .call { callee := .builtin .append, args := #[s, x], argTypes := #[35, 35] }) {base : Nat} {v : Value} {l0 : List Int} (hs : a.eval s = v) (hown : OwnInts w base v l0)
    {ao : Option Addr} {n c : Nat} {l : List Int} (hx : a.eval x = .slice ao n c) (hat : IntsAt w ao n l) (hl : l0.length + n < 17592186044416) (hbase : base ≤ w.heap.size)
    (hK : ∀ v' w', OwnInts w' base v' (l0 ++ l) → Kept (fun k => some k = v.ownBlock) w w' → wpList Try.prog ops Q rest (a.put o.dst v') w') :
    wpList Try.prog ops Q (o :: rest) a w := by
  obtain ⟨i0, hi, hz0, hz1, hz2⟩ := info_parts infoInt
  refine wpList_append_all _ hg s x 35 ho base 3 i0 (.int .i64 0) 1 8 Try.underlying35 hi hz0 hz1 hz2 rfl (by decide) v l0.length (l0.map (Value.int .i64)) hs hown ao n c (l.map (Value.int .i64)) hx (by simp [hat.1]) ?_ (ints_oneCell _ _) (by unfold maxLen; omega) (by omega) hbase ?_
  · intro j u hu
    have hj : j < n := by have := lt_of_getElem? hu; simpa [hat.1] using this
    obtain ⟨b, off, y, hb, _, hy, hc⟩ := hat.2 j hj
    refine ⟨b, off, hb, ?_⟩
    rw [hc]
    simpa [hy] using hu
  · intro v' w' h1 h2
    refine hK v' w' ?_ (Kept.of_grown h2)
    unfold OwnInts
    rw [List.length_append, List.map_append, hat.1]
    exact h1

set_option maxHeartbeats 1000000 in
theorem copyInts_any (a : Option Addr) (n cap : Nat) (l : List Int) (W : World) (h : IntsAt W a n l) (hn : n ≤ 1099511627776) :
    Calls Try.prog 41 #[.slice a n cap] W (RetInts W l) := by
  have H := Lib.hid h
  clear h
  go_enter Try.func41, Try.ntmps41
  go_wp2_with (at_builtin; refine appAll rfl _ _ rfl rfl (OwnInts.made W W.heap.size (Nat.le_refl _)) rfl (H.out.below ((Below.refl _ _).alloc (Nat.le_refl _) _)) (by simp; omega) (by simp) ?_; intro v' w1 ho1 hk1)
  go_ret
  have hb : Below W.heap.size W w1 := ((Below.refl _ W).alloc (Nat.le_refl _) _).trans (hk1.setOwn (OwnInts.made W W.heap.size (Nat.le_refl _)) (Nat.le_refl _) (by simp))
  exact ⟨_, rfl, by simpa using ho1, hb⟩
theorem copyInts_is (W : World) (v : Value) (l : List Int) (h : IsInts W v l) (hn : l.length ≤ 1099511627776) : Calls Try.prog 41 #[v] W (RetInts W l) := by
  obtain ⟨a, cap, rfl, hi⟩ := h
  exact copyInts_any _ _ _ _ _ hi hn
end Go.Proofs.Ytfbmpkdjhhcnpaa

namespace Go.Proofs.Ytfbmpkdjhhcnpaa
open Go.RowKit
set_option maxRecDepth 100000
set_option linter.unusedVariables false
set_option linter.unusedSimpArgs false

theorem Kept.cell {S : Nat → Prop} {w w' : World} (h : Kept S w w') {b o : Nat} (hb : b < w.heap.size) (hs : ¬ S b) : w'.cell? ⟨b, o, none⟩ = w.cell? ⟨b, o, none⟩ := World.cell?_of_block (a := ⟨b, o, none⟩) (h.block b hb hs)
theorem Kept.frozen {S : Nat → Prop} {w w' : World} (h : Kept S w w') {b o : Nat} (hb : b < w.heap.size) (hs : ¬ S b) : w'.frozen? ⟨b, o, none⟩ = w.frozen? ⟨b, o, none⟩ := World.frozen?_of_block (a := ⟨b, o, none⟩) (h.block b hb hs)
/-- append of whatever slice to the call's own: the run -/
theorem run_append_whole {P : Program} (w : World) (t ty : TypeId) (base : Nat) (e : TypeId) (i : TypeInfo) (z : Value) (size bytes : Nat) (ht : P.underlying t = some (.slice e)) (hi : P.info? e = some i) (hz : i.zero = some z)
    (hsize : i.size = size) (hby : i.bytes = bytes) (hzs : z.cells.size = size) (hsz : 0 < size)
    (v : Value) (n : Nat) (xs : List Value) (hown : w.ownsRow base e size v n xs)
    (ao : Option Addr) (m c : Nat) (news : List Value) (hl : news.length = m * size)
    (hsrc : ∀ j u, news[j]? = some u → ∃ b off, ao = some ⟨b, off, none⟩ ∧ w.cell? ⟨b, off + j, none⟩ = some u) (h1 : ∀ u ∈ news, u.oneCell' = true)
    (h63 : n + m ≤ maxLen) (hbytes : (n + m) * bytes ≤ 140737488355328) (hbase : base ≤ w.heap.size) :
    ∃ v' w', (Builtin.append_ #[t, t] ty #[v, .slice ao m c]).run P w = .ok v' w' ∧ w'.ownsRow base e size v' (n + m) (xs ++ news) ∧ w.grownBy w' v.ownBlock ∧ (v'.ownBlock = v.ownBlock ∨ v'.ownBlock = some w.heap.size) := by
  cases ao with
  | some ad =>
    obtain ⟨v', w', hr, h2, h3, _, h5⟩ := run_append_own_at (P := P) w base t ty e i z size bytes ht hi hz hsize hby hzs hsz v n xs hown ad m c news hl (by
      intro j u hu
      obtain ⟨b, off, hb, hc⟩ := hsrc j u hu
      cases hb
      rw [Addr.add_lit]
      exact hc) h1 h63 hbytes hbase
    exact ⟨v', w', hr, h2, h3, h5⟩
  | none =>
    have hn : news = [] := by
      cases news with
      | nil => rfl
      | cons u r =>
        obtain ⟨b, off, hb, _⟩ := hsrc 0 u rfl
        cases hb
    subst hn
    obtain rfl : m = 0 := by
      rcases Nat.eq_zero_or_pos m with h | h
      · exact h
      · have := Nat.mul_pos h hsz
        simp at hl
        omega
    exact ⟨v, w, run_append_noneAny (P := P) w base t ty e i size ht hi v n xs hown c, by simpa using hown, World.grownBy.refl _ _, .inl rfl⟩

theorem step_append_whole {P : Program} (w : World) {ops : Array Oper} {o : Oper} {a : Act} {K : Act → World → Prop} {Q : Exit → Act → World → Prop} {E : Prop} (hgd : o.guard = none) (s x : Operand) (t : TypeId)
    (ho : o.op = .call { callee := .builtin .append, args := #[s, x], argTypes := #[t, t] })
    (base : Nat) (e : TypeId) (i : TypeInfo) (z : Value) (size bytes : Nat) (ht : P.underlying t = some (.slice e)) (hi : P.info? e = some i) (hz : i.zero = some z)
    (hsize : i.size = size) (hby : i.bytes = bytes) (hzs : z.cells.size = size) (hsz : 0 < size)
    (v : Value) (n : Nat) (xs : List Value) (hs : a.eval s = v) (hown : w.ownsRow base e size v n xs)
    (ao : Option Addr) (m c : Nat) (news : List Value) (hx : a.eval x = .slice ao m c) (hl : news.length = m * size)
    (hsrc : ∀ j u, news[j]? = some u → ∃ b off, ao = some ⟨b, off, none⟩ ∧ w.cell? ⟨b, off + j, none⟩ = some u) (h1 : ∀ u ∈ news, u.oneCell' = true)
    (h63 : n + m ≤ maxLen) (hbytes : (n + m) * bytes ≤ 140737488355328) (hbase : base ≤ w.heap.size)
    (hK : ∀ v' w', w'.ownsRow base e size v' (n + m) (xs ++ news) → w.grownBy w' v.ownBlock → (v'.ownBlock = v.ownBlock ∨ v'.ownBlock = some w.heap.size) → K (a.put o.dst v') w') :
    if Region.wanted o (yielded ops a.tmps) = true then Oper.wp P o a w K Q else E := by
  have hw : Region.wanted o (yielded ops a.tmps) = true := by simp [Region.wanted, hgd]
  rw [if_pos hw]
  obtain ⟨v', w', hr, h2, h3, h4⟩ := run_append_whole (P := P) w t o.type base e i z size bytes ht hi hz hsize hby hzs hsz v n xs hown ao m c news hl hsrc h1 h63 hbytes hbase
  unfold Oper.wp execOp
  simp only [ho, resolve, invoke, builtin, Sem.run_bind, Sem.run_pure, Result.andThen_ok, List.map_toArray, List.map_cons, List.map_nil, hs, hx, hr]
  exact hK v' w' h2 h3 h4

theorem wpList_append_whole {P : Program} (w : World) {ops : Array Oper} {rest : List Oper} {o : Oper} {a : Act} {Q : Exit → Act → World → Prop} (hgd : o.guard = none) (s x : Operand) (t : TypeId)
    (ho : o.op = .call { callee := .builtin .append, args := #[s, x], argTypes := #[t, t] })
    (base : Nat) (e : TypeId) (i : TypeInfo) (z : Value) (size bytes : Nat) (ht : P.underlying t = some (.slice e)) (hi : P.info? e = some i) (hz : i.zero = some z)
    (hsize : i.size = size) (hby : i.bytes = bytes) (hzs : z.cells.size = size) (hsz : 0 < size)
    (v : Value) (n : Nat) (xs : List Value) (hs : a.eval s = v) (hown : w.ownsRow base e size v n xs)
    (ao : Option Addr) (m c : Nat) (news : List Value) (hx : a.eval x = .slice ao m c) (hl : news.length = m * size)
    (hsrc : ∀ j u, news[j]? = some u → ∃ b off, ao = some ⟨b, off, none⟩ ∧ w.cell? ⟨b, off + j, none⟩ = some u) (h1 : ∀ u ∈ news, u.oneCell' = true)
    (h63 : n + m ≤ maxLen) (hbytes : (n + m) * bytes ≤ 140737488355328) (hbase : base ≤ w.heap.size)
    (hK : ∀ v' w', w'.ownsRow base e size v' (n + m) (xs ++ news) → w.grownBy w' v.ownBlock → (v'.ownBlock = v.ownBlock ∨ v'.ownBlock = some w.heap.size) → wpList P ops Q rest (a.put o.dst v') w') :
    wpList P ops Q (o :: rest) a w := by
  refine wpList_plain hgd fun K hK' => ?_
  obtain ⟨v', w', hr, h2, h3, h4⟩ := run_append_whole (P := P) w t o.type base e i z size bytes ht hi hz hsize hby hzs hsz v n xs hown ao m c news hl hsrc h1 h63 hbytes hbase
  unfold Oper.wp execOp
  simp only [ho, resolve, invoke, builtin, Sem.run_bind, Sem.run_pure, Result.andThen_ok, List.map_toArray, List.map_cons, List.map_nil, hs, hx, hr]
  exact hK' _ _ (hK v' w' h2 h3 h4)


/-- append of one int, as one step of a region that draws its order -/
theorem stepInts1 {w : World} {ops : Array Oper} {o : Oper} {a : Act} {K : Act → World → Prop} {Q : Exit → Act → World → Prop} {E : Prop} (hg : o.guard = none) (s x : Operand)
    (ho : o.op = .call { callee := .builtin .append, args := #[s, x], argTypes := #[35, 35] }) {base : Nat} {v : Value} {l : List Int} (hs : a.eval s = v) (hown : OwnInts w base v l)
    (y : Int) (g : Nat) (hx : a.eval x = .slice (some ⟨g, 0, none⟩) 1 1) (hc : w.cell? ⟨g, 0, none⟩ = some (.int .i64 y)) (hl : l.length < 1099511627776) (hbase : base ≤ w.heap.size)
    (hK : ∀ v' w', OwnInts w' base v' (l ++ [y]) → Kept (fun k => some k = v.ownBlock) w w' → (v'.ownBlock = v.ownBlock ∨ v'.ownBlock = some w.heap.size) → K (a.put o.dst v') w') :
    if Region.wanted o (yielded ops a.tmps) = true then Oper.wp Try.prog o a w K Q else E := by
  obtain ⟨i0, hi, hz0, hz1, hz2⟩ := info_parts infoInt
  refine step_append_whole _ hg s x 35 ho base 3 i0 _ 1 8 Try.underlying35 hi hz0 hz1 hz2 rfl (by decide) v l.length (l.map (Value.int .i64)) hs hown (some ⟨g, 0, none⟩) 1 1 [.int .i64 y] hx rfl ?_ (by intro u hu; simp at hu; subst hu; rfl) (by unfold maxLen; omega) (by omega) hbase ?_
  · intro j u hu
    have hj : j = 0 := by have := lt_of_getElem? hu; simp at this; omega
    subst hj
    simp at hu
    subst hu
    exact ⟨g, 0, rfl, hc⟩
  · intro v' w' h1 h2 h3
    refine hK v' w' ?_ (Kept.of_grown h2) h3
    unfold OwnInts
    rw [List.length_append, List.map_append]
    exact h1
/-- .. at a list of operations, and where the slice then lies -/
theorem app1At {w : World} {ops : Array Oper} {rest : List Oper} {o : Oper} {a : Act} {Q : Exit → Act → World → Prop} (hg : o.guard = none) (s x : Operand)
    (ho : o.op = .call { callee := .builtin .append, args := #[s, x], argTypes := #[35, 35] }) {base : Nat} {v : Value} {l : List Int} (hs : a.eval s = v) (hown : OwnInts w base v l) (y : Int)
    (hx : a.eval x = .slice (some ⟨w.heap.size, 0, none⟩) 1 1) (hl : l.length < 1099511627776) (hbase : base ≤ w.heap.size)
    (hK : ∀ v' w', OwnInts w' base v' (l ++ [y]) → Kept (fun k => some k = v.ownBlock) w w' → (v'.ownBlock = v.ownBlock ∨ ∀ b, v'.ownBlock = some b → w.heap.size ≤ b) → wpList Try.prog ops Q rest (a.put o.dst v') w') :
    wpList Try.prog ops Q (o :: rest) a (w.alloc (.cells #[.int .i64 y] 3)) := by
  obtain ⟨i0, hi, hz0, hz1, hz2⟩ := info_parts infoInt
  refine wpList_append_whole _ hg s x 35 ho base 3 i0 (.int .i64 0) 1 8 Try.underlying35 hi hz0 hz1 hz2 rfl (by decide) v l.length (l.map (Value.int .i64)) hs (World.ownsRow.alloc hown _) (some ⟨w.heap.size, 0, none⟩) 1 1 [.int .i64 y] hx rfl ?_ (by intro u hu; simp at hu; subst hu; rfl) (by unfold maxLen; omega) (by omega) (by simp; omega) ?_
  · intro j u hu
    have hj : j = 0 := by have := lt_of_getElem? hu; simp at this; omega
    subst hj
    simp at hu
    subst hu
    exact ⟨w.heap.size, 0, rfl, by simp [World.cell?_alloc_new]⟩
  · intro v' w' h1 h2 h3
    refine hK v' w' (by unfold OwnInts; simpa using h1) ((Kept.of_below ((Below.refl _ _).alloc (Nat.le_refl _) _)).trans ⟨h2.os, h2.tape, h2.output, h2.size, fun k hk hs => h2.block k hk hs⟩) ?_
    rcases h3 with h3 | h3
    · exact .inl h3
    · right
      intro b hb
      rw [h3] at hb
      simp at hb
      omega
end Go.Proofs.Ytfbmpkdjhhcnpaa

namespace Go.Proofs.Ytfbmpkdjhhcnpaa
open Go.RowKit
set_option maxRecDepth 100000
set_option linter.unusedVariables false
set_option linter.unusedSimpArgs false
theorem belAl (w : World) (o : Obj) : Below w.heap.size w (w.alloc o) := (Below.refl _ _).alloc (Nat.le_refl _) _
def rangeB (k l : Int) : Bool := inB k 1 3 && inB l 0 (2 * k - 1)
end Go.Proofs.Ytfbmpkdjhhcnpaa

