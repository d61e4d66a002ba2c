/- Laws on elements of slices that the call made: one element (of whatever number of cells) is stored, loaded. No condition. -/
import Derived.Test.YtfdhbbhfilkafaaGreatOwn
namespace Go.Proofs.YtfdhbbhfilkafaaGreat
open Go.RowKit
set_option maxRecDepth 100000
set_option linter.unusedVariables false
set_option linter.unusedSimpArgs false

/-- 'out[k] = v': v's cells are written into the row. -/
theorem run_store_elem {P : Program} (w : World) (t e : TypeId) (i : TypeInfo) (size : Nat) (hinfo : P.info? t = some i) (hsize : i.size = size) (base g n cap : Nat) (xs : List Value)
    (hown : w.ownsRow base e size (.slice (some ⟨g, 0, none⟩) n cap) n xs) (k off : Nat) (hk : k < n) (hoff : off = k * size) (v : Value) (news : List Value) (hv : v.cells.toList = news) (hl : news.length = size) (h1 : ∀ u ∈ news, u.oneCell' = true) :
    ∃ w', (Instr.storeAt t (.pointer (some ⟨g, off, none⟩)) v).run P w = .ok () w' ∧
      w'.ownsRow base e size (.slice (some ⟨g, 0, none⟩) n cap) n (xs.take (k * size) ++ news ++ xs.drop (k * size + size)) ∧ w.grownBy w' (some g) := by
  subst hsize hoff
  rcases hown.2 with ⟨h, _⟩ | ⟨g', cap', cur, h, hbg, hg, hnc, hcm, hcs, htake⟩
  · simp at h
  simp only [Value.slice.injEq, Option.some.injEq, Addr.mk.injEq, and_true, true_and] at h
  obtain ⟨rfl, rfl⟩ := h
  have hle : k * i.size + i.size ≤ n * i.size := by rw [← Nat.succ_mul]; exact Nat.mul_le_mul_right _ hk
  have hle2 : n * i.size ≤ cap * i.size := Nat.mul_le_mul_right _ hnc
  have hst := run_storeCells_at P g (k * i.size) e news 0 cur w hg (by rw [hl, hcs]; omega) h1
  simp only [Nat.add_zero] at hst
  have hsz : v.cells.size = i.size := by rw [← hl, ← hv]; simp
  refine ⟨w.setRow g (cur.toList.take (k * i.size) ++ news ++ cur.toList.drop (k * i.size + news.length)).toArray, ?_, ?_, ?_⟩
  · simp [Instr.storeAt, Instr.sureAddr, asAddr, storeVar, sizeOf, typeInfo, hinfo, hsz, hv, hst]
  · refine ⟨?_, .inr ⟨g, cap, _, rfl, hbg, setRow_heap w g cur _ e _ hg, hnc, hcm, ?_, ?_⟩⟩
    · have := hown.1
      simp [hl]; omega
    · simp [hl]; omega
    · rw [← htake, hl]
      have hlc : cur.toList.length = cap * i.size := by simpa using hcs
      generalize cur.toList = c at *
      simp only [List.take_append, List.take_take, List.length_take, List.length_append, hl, List.drop_take]
      rw [List.take_of_length_le (l := news) (by rw [hl]; omega)]
      congr 2
      · congr 1; omega
      · congr 1; omega
  · exact ⟨rfl, rfl, rfl, by simp, fun j _ hj => setRow_other w g j _ (fun e => hj (by simp [e]))⟩

theorem wpList_store_elem {P : Program} (w : World) {ops : Array Oper} {rest : List Oper} {o : Oper} {a : Act} {Q : Exit → Act → World → Prop} (hgd : o.guard = none) (hdst : o.dst = none) (t : TypeId) (p x : Operand) (ho : o.op = .store t p x)
    (e : TypeId) (i : TypeInfo) (size : Nat) (hinfo : P.info? t = some i) (hsize : i.size = size) (base g n cap : Nat) (xs : List Value)
    (hown : w.ownsRow base e size (.slice (some ⟨g, 0, none⟩) n cap) n xs) (k off : Nat) (hk : k < n) (hp : a.eval p = .pointer (some ⟨g, off, none⟩)) (hoff : off = k * size) (v : Value) (hx : a.eval x = v) (news : List Value) (hv : v.cells.toList = news) (hl : news.length = size) (h1 : ∀ u ∈ news, u.oneCell' = true)
    (hK : ∀ w', w'.ownsRow base e size (.slice (some ⟨g, 0, none⟩) n cap) n (xs.take (k * size) ++ news ++ xs.drop (k * size + size)) → w.grownBy w' (some g) → wpList P ops Q rest a w') :
    wpList P ops Q (o :: rest) a w := by
  refine wpList_plain hgd fun K hK' => ?_
  obtain ⟨w', hr, h2, h3⟩ := run_store_elem (P := P) w t e i size hinfo hsize base g n cap xs hown k off hk hoff v news hv hl h1
  unfold Oper.wp execOp
  simp only [ho, hp, hx, Sem.run_bind, hr, Result.andThen_ok, Sem.run_pure, Oper.upon_skip, Act.put, hdst]
  exact hK' _ _ (hK w' h2 h3)

section flat
variable {α β : Type} {f : Nat} {c : α → List β}
theorem flat_length (hc : ∀ a, (c a).length = f) (l : List α) : (l.flatMap c).length = l.length * f := by
  induction l with
  | nil => simp
  | cons a l ih => simp [List.flatMap_cons, ih, hc, Nat.succ_mul]; omega
theorem flat_take (hc : ∀ a, (c a).length = f) (l : List α) (k : Nat) : (l.flatMap c).take (k * f) = (l.take k).flatMap c := by
  induction l generalizing k with
  | nil => simp
  | cons a l ih =>
    cases k with
    | zero => simp
    | succ k =>
      rw [List.flatMap_cons, List.take_append, List.take_of_length_le (by rw [hc, Nat.succ_mul]; omega), hc, Nat.succ_mul, Nat.add_sub_cancel, ih]
      simp
theorem flat_drop (hc : ∀ a, (c a).length = f) (l : List α) (k : Nat) : (l.flatMap c).drop (k * f) = (l.drop k).flatMap c := by
  induction l generalizing k with
  | nil => simp
  | cons a l ih =>
    cases k with
    | zero => simp
    | succ k =>
      rw [List.flatMap_cons, List.drop_append, List.drop_of_length_le (by rw [hc, Nat.succ_mul]; omega), hc, Nat.succ_mul, Nat.add_sub_cancel, ih]
      simp
theorem flat_get (hc : ∀ a, (c a).length = f) {l : List α} {k j : Nat} {a : α} (h : l[k]? = some a) (hj : j < f) : (l.flatMap c)[k * f + j]? = (c a)[j]? := by
  rw [← List.getElem?_drop, flat_drop hc]
  obtain ⟨hk, rfl⟩ := List.getElem?_eq_some_iff.1 h
  rw [List.drop_eq_getElem_cons hk, List.flatMap_cons, List.getElem?_append_left (by rw [hc]; exact hj)]
theorem flat_set (hc : ∀ a, (c a).length = f) {l : List α} {k : Nat} {a : α} (hk : k < l.length) : (l.flatMap c).take (k * f) ++ c a ++ (l.flatMap c).drop (k * f + f) = (l.set k a).flatMap c := by
  rw [flat_take hc, ← Nat.succ_mul, flat_drop hc, List.set_eq_take_append_cons_drop, if_pos hk]
  simp [List.flatMap_append, List.flatMap_cons]
end flat

/-- made and not yet filled: k filled of n -/
theorem take_rep_set_any {α : Type} {l : List α} {z : α} {n k : Nat} {x : α} (hl : l.length = n) (hx : l[k]? = some x) :
    (l.take k ++ List.replicate (n - k) z).set k x = l.take (k + 1) ++ List.replicate (n - (k + 1)) z := by
  have hk := lt_of_getElem? hx
  rw [take_succ_of hx, List.set_append_right _ _ (by simp; omega)]
  obtain ⟨m, hm⟩ : ∃ m, n - k = m + 1 := ⟨n - k - 1, by omega⟩
  have h1 : k - min k l.length = 0 := by omega
  have h2 : n - (k + 1) = m := by omega
  simp [hm, h1, h2, List.replicate_succ]

theorem seg_set {α : Type} (L : List α) (p : Nat) (pre : List α) (b : α) (h : p + pre.length < L.length) :
    (L.take p ++ pre ++ L.drop (p + pre.length)).set (p + pre.length) b = L.take p ++ (pre ++ [b]) ++ L.drop (p + (pre.length + 1)) := by
  rw [List.set_append_right _ _ (by simp; omega)]
  obtain ⟨x, s, h1, h2⟩ : ∃ x s, L.drop (p + pre.length) = x :: s ∧ L.drop (p + pre.length + 1) = s := ⟨_, _, List.drop_eq_getElem_cons h, rfl⟩
  rw [← Nat.add_assoc, h1, h2]
  have h3 : p + pre.length - (L.take p ++ pre).length = 0 := by simp; omega
  rw [h3]
  simp
theorem all_take_succ {α : Type} {p : α → Bool} {l : List α} {k : Nat} {x : α} (h : l[k]? = some x) (hp : (l.take k).all p = true) (hx : p x = true) : (l.take (k + 1)).all p = true := by
  rw [take_succ_of h, List.all_append, hp]; simp [hx]

/-- the first j changed by f -/
def mapTo (f : Int → Int) (l : List Int) (j : Nat) : List Int := (l.take j).map f ++ l.drop j
theorem mapTo_length {f : Int → Int} {l : List Int} {j : Nat} : (mapTo f l j).length = l.length := by simp [mapTo]; omega
theorem mapTo_get {f : Int → Int} {l : List Int} {j : Nat} {x : Int} (h : l[j]? = some x) : (mapTo f l j)[j]? = some x := by
  have := lt_of_getElem? h
  unfold mapTo
  rw [List.getElem?_append_right (by simp; omega)]
  simp [Nat.min_eq_left (Nat.le_of_lt this), h]
theorem mapTo_succ {f : Int → Int} {l : List Int} {j : Nat} {x : Int} (h : l[j]? = some x) : (mapTo f l j).set j (f x) = mapTo f l (j + 1) := by
  have hj := lt_of_getElem? h
  unfold mapTo
  rw [take_succ_of h, List.set_append_right _ _ (by simp; omega)]
  obtain ⟨y, s, h1, h2⟩ : ∃ y s, l.drop j = y :: s ∧ l.drop (j + 1) = s := ⟨_, _, List.drop_eq_getElem_cons hj, rfl⟩
  rw [h1, h2]
  simp [Nat.min_eq_left (Nat.le_of_lt hj)]
theorem mapTo_all {f : Int → Int} {l : List Int} : mapTo f l l.length = l.map f := by simp [mapTo]
end Go.Proofs.YtfdhbbhfilkafaaGreat
