/- Cutting texts and reading numbers: the plain law. No condition but those named. -/
import Derived.Test.YtnjecekaenddiaaFms
import Derived.Test.YtnjecekaenddiaaFmf
namespace Go.Proofs.Ytnjecekaenddiaa
open Go.RowKit
set_option maxRecDepth 100000
set_option linter.unusedVariables false
set_option linter.unusedSimpArgs false

/-- one byte more: the parts that are done, and the part that is begun -/
def cutStep (b : UInt8) (s : List (List UInt8) × List UInt8) (c : UInt8) : List (List UInt8) × List UInt8 := if c = b then (s.1 ++ [s.2], []) else (s.1, s.2 ++ [c])
def cutF (b : UInt8) (l : List UInt8) : List (List UInt8) × List UInt8 := l.foldl (cutStep b) ([], [])
def cutL (b : UInt8) (l : List UInt8) : List (List UInt8) := (cutF b l).1 ++ [(cutF b l).2]
theorem cutF_snoc (b : UInt8) (l : List UInt8) (c : UInt8) : cutF b (l ++ [c]) = cutStep b (cutF b l) c := by simp [cutF, List.foldl_append]
theorem cutF_hit {b c : UInt8} {l : List UInt8} {k : Nat} (h : l[k]? = some c) (hc : c = b) : cutF b (l.take (k + 1)) = ((cutF b (l.take k)).1 ++ [(cutF b (l.take k)).2], []) := by
  rw [take_succ_of h, cutF_snoc, cutStep, if_pos hc]
theorem cutF_miss {b c : UInt8} {l : List UInt8} {k : Nat} (h : l[k]? = some c) (hc : c ≠ b) : cutF b (l.take (k + 1)) = ((cutF b (l.take k)).1, (cutF b (l.take k)).2 ++ [c]) := by
  rw [take_succ_of h, cutF_snoc, cutStep, if_neg hc]
theorem snoc_ind {α : Type} {P : List α → Prop} (h0 : P []) (h1 : ∀ l c, P l → P (l ++ [c])) (l : List α) : P l := by
  rw [← List.reverse_reverse l]
  induction l.reverse with
  | nil => exact h0
  | cons a t ih => rw [List.reverse_cons]; exact h1 _ _ ih
theorem cutF_len (b : UInt8) (l : List UInt8) : (cutF b l).1.length ≤ l.length ∧ (cutF b l).2.length ≤ l.length ∧ (∀ t ∈ (cutF b l).1, t.length ≤ l.length) ∧ (cutF b l).1.length = l.count b ∧ (∀ t ∈ (cutF b l).1, b ∉ t) ∧ b ∉ (cutF b l).2 := by
  induction l using snoc_ind with
  | h0 => simp [cutF]
  | h1 l c ih =>
    obtain ⟨h1, h2, h3, h4, h5, h6⟩ := ih
    rw [cutF_snoc, cutStep]
    split
    · next h =>
      subst h
      refine ⟨by simp; omega, by simp, ?_, by simp [h4], ?_, by simp⟩
      · intro t ht
        simp at ht
        rcases ht with ht | rfl
        · have := h3 t ht; simp; omega
        · simp; omega
      · intro t ht
        simp at ht
        rcases ht with ht | rfl
        · exact h5 t ht
        · exact h6
    · next h =>
      refine ⟨by simp; omega, by simp; omega, ?_, by simp [h4, h], h5, ?_⟩
      · intro t ht
        have := h3 t ht; simp; omega
      · simp only [List.mem_append, List.mem_singleton, not_or]
        exact ⟨h6, fun e => h e.symm⟩
theorem cutL_length (b : UInt8) (l : List UInt8) : (cutL b l).length = l.count b + 1 := by unfold cutL; simp [(cutF_len b l).2.2.2.1]
theorem cutL_le (b : UInt8) (l : List UInt8) : (cutL b l).length ≤ l.length + 1 := by rw [cutL_length]; have := List.count_le_length (a := b) (l := l); omega
theorem cutL_mem {b : UInt8} {l t : List UInt8} (h : t ∈ cutL b l) : t.length ≤ l.length ∧ b ∉ t := by
  obtain ⟨h1, h2, h3, h4, h5, h6⟩ := cutF_len b l
  unfold cutL at h
  simp at h
  rcases h with h | rfl
  · exact ⟨h3 t h, h5 t h⟩
  · exact ⟨h2, h6⟩
theorem cutF_free {b : UInt8} {t : List UInt8} (h : b ∉ t) (s : List (List UInt8) × List UInt8) : t.foldl (cutStep b) s = (s.1, s.2 ++ t) := by
  induction t generalizing s with
  | nil => simp
  | cons c t ih =>
    rw [List.foldl_cons, ih (fun e => h (List.mem_cons_of_mem _ e)), cutStep, if_neg (fun e => h (by simp [e]))]
    simp
theorem cutL_words {b : UInt8} {ts : List (List UInt8)} (h : ∀ t ∈ ts, b ∉ t) : ∀ s : List (List UInt8) × List UInt8, ((ts.flatMap fun t => b :: t).foldl (cutStep b) s).1 ++ [((ts.flatMap fun t => b :: t).foldl (cutStep b) s).2] = s.1 ++ [s.2] ++ ts := by
  induction ts with
  | nil => intro s; simp
  | cons t ts ih =>
    intro s
    rw [List.flatMap_cons, List.foldl_append, List.foldl_cons, cutStep, if_pos rfl, cutF_free (h t (by simp)), ih (fun t ht => h t (by simp [ht]))]
    simp
theorem cutL_glue {b : UInt8} {w : List UInt8} {ts : List (List UInt8)} (hw : b ∉ w) (h : ∀ t ∈ ts, b ∉ t) : cutL b (w ++ ts.flatMap fun t => b :: t) = w :: ts := by
  unfold cutL cutF
  rw [List.foldl_append, cutF_free hw, cutL_words h]
  simp
theorem jn_flat {b : UInt8} {w : List UInt8} {ts : List (List UInt8)} : ∀ n, n ≤ ts.length → jnTo [b] (w :: ts) (n + 1) = w ++ (ts.take n).flatMap fun t => b :: t
  | 0, _ => by simp [jnTo]
  | n + 1, h => by
    have e : ts[n]? = some ts[n] := List.getElem?_eq_getElem (by omega)
    rw [jnTo, if_pos (by omega), jn_flat n (by omega), take_succ_of e, List.getElem?_cons_succ, e, Option.getD_some, List.flatMap_append]
    simp only [List.flatMap_cons, List.flatMap_nil, List.append_nil, List.append_assoc, List.singleton_append]
/-- how many signs stand in the glue of parts without them -/
theorem jn_count {b : UInt8} {ws : List (List UInt8)} (h : ∀ t ∈ ws, b ∉ t) : ∀ n, n ≤ ws.length → (jnTo [b] ws n).count b = n - 1
  | 0, _ => by simp [jnTo]
  | n + 1, hn => by
    have e : ws[n]? = some ws[n] := List.getElem?_eq_getElem (by omega)
    have h0 : (ws[n]).count b = 0 := List.count_eq_zero.2 (h _ (List.mem_of_getElem? e))
    have ih := jn_count h n (by omega)
    rw [jnTo]
    split
    · rw [List.count_append, List.count_append, ih, e, Option.getD_some, h0]; simp; omega
    · rw [List.count_append, ih, e, Option.getD_some, h0]; omega
theorem jn_len {b : UInt8} {ws : List (List UInt8)} {B : Nat} (h : ∀ t ∈ ws, t.length ≤ B) : ∀ n, n ≤ ws.length → (jnTo [b] ws n).length ≤ n * (B + 1)
  | 0, _ => by simp [jnTo]
  | n + 1, hn => by
    have e : ws[n]? = some ws[n] := List.getElem?_eq_getElem (by omega)
    have h0 := h _ (List.mem_of_getElem? e)
    have ih := jn_len (b := b) h n (by omega)
    have : (n + 1) * (B + 1) = n * (B + 1) + (B + 1) := Nat.succ_mul _ _
    rw [jnTo]
    split
    · rw [List.length_append, List.length_append, e, Option.getD_some]; simp; omega
    · rw [List.length_append, e, Option.getD_some]; omega
/-- the glue is no longer than the text that was cut -/
theorem jn_cut (b : UInt8) (l : List UInt8) : ∀ n, n ≤ (cutL b l).length → (jnTo [b] (cutL b l) n).length ≤ l.length := by
  have hfree := fun t ht => (cutL_mem (b := b) (l := l) (t := t) ht).2
  have key : ∀ l : List UInt8, jnTo [b] (cutL b l) (cutL b l).length = l := by
    intro l
    induction l using snoc_ind with
    | h0 => simp [cutL, cutF, jnTo]
    | h1 l c ih =>
      have hcongr : ∀ (x y : List (List UInt8)) n, (∀ i, i < n → x[i]? = y[i]?) → jnTo [b] x n = jnTo [b] y n := fun x y n h => jnTo_congr h
      unfold cutL at ih ⊢
      rw [cutF_snoc, cutStep]
      generalize hF : cutF b l = F at ih ⊢
      obtain ⟨o, p⟩ := F
      dsimp only at ih ⊢
      rw [List.length_append, List.length_singleton] at ih
      split
      · next h =>
        subst h
        rw [List.length_append, List.length_append, List.length_singleton, List.length_singleton]
        rw [jnTo, if_pos (by omega), hcongr (o ++ [p] ++ [[]]) (o ++ [p]) _ (fun i hi => by rw [List.getElem?_append_left (by simp; omega)]), ih]
        simp
      · next h =>
        rw [List.length_append, List.length_singleton]
        rw [jnTo, hcongr (o ++ [p ++ [c]]) (o ++ [p]) _ (fun i hi => by rw [List.getElem?_append_left hi, List.getElem?_append_left hi])]
        rw [jnTo] at ih
        have e1 : (o ++ [p])[o.length]?.getD [] = p := by simp
        have e2 : (o ++ [p ++ [c]])[o.length]?.getD [] = p ++ [c] := by simp
        rw [e1] at ih
        rw [e2, ← List.append_assoc, ih]
  have mono : ∀ (ws : List (List UInt8)) d n, (jnTo [b] ws n).length ≤ (jnTo [b] ws (n + d)).length := by
    intro ws d
    induction d with
    | zero => intro n; exact Nat.le_refl _
    | succ d ih =>
      intro n
      refine Nat.le_trans (ih n) ?_
      rw [← Nat.add_assoc, jnTo]
      split <;> simp <;> omega
  intro n h
  have := mono (cutL b l) ((cutL b l).length - n) n
  rw [show n + ((cutL b l).length - n) = (cutL b l).length by omega, key] at this
  exact this
/-- a number and a digit -/
theorem fmtI_digit {d : Nat} (h : d < 10) : fmtI (d : Int) = [UInt8.ofNat (48 + d)] := by
  unfold fmtI
  by_cases h0 : d = 0
  · subst h0; rfl
  · rw [if_neg (by omega), if_neg (by omega)]
    have e : ((d : Int)).natAbs = d := by omega
    rw [e, dg_pos h0, show d / 10 = 0 by omega, dg_zero, show d % 10 = d by omega]
    rfl
/-- what is asked of a number that is read -/
def Nm (l : List UInt8) (n : Int) : Prop := (-9000000000000 ≤ n ∧ n ≤ 9000000000000) ∧ ∀ d : Nat, d < 10 → l = [UInt8.ofNat (48 + d)] → n = d
theorem Nm.fmt {n x : Int} (h : Nm (fmtI x) n) (h0 : 0 ≤ x) (h1 : x < 10) : n = x := by
  obtain ⟨d, rfl⟩ := Int.eq_ofNat_of_zero_le h0
  exact h.2 d (by omega) (fmtI_digit (by omega))
theorem dig_no {d : Nat} (h : d < 10) {c : UInt8} (hc : c.toNat < 48 ∨ 57 < c.toNat) : c ∉ [UInt8.ofNat (48 + d)] := by
  intro e
  rw [List.mem_singleton] at e
  subst e
  rw [UInt8.toNat_ofNat'] at hc
  omega
theorem fmtI_no {x : Int} (h0 : 0 ≤ x) (h1 : x < 10) {c : UInt8} (hc : c.toNat < 48 ∨ 57 < c.toNat) : c ∉ fmtI x := by
  obtain ⟨d, rfl⟩ := Int.eq_ofNat_of_zero_le h0
  rw [fmtI_digit (by omega)]
  exact dig_no (by omega) hc
theorem fmtI_one {x : Int} (h0 : 0 ≤ x) (h1 : x < 10) : (fmtI x).length = 1 := by
  obtain ⟨d, rfl⟩ := Int.eq_ofNat_of_zero_le h0
  rw [fmtI_digit (by omega)]; rfl

def tx (sep : UInt8) (x : Int × Int) : List UInt8 := fmtI x.1 ++ sep :: fmtI x.2
theorem tx_cut {sep : UInt8} {x : Int × Int} (hs : sep.toNat < 48 ∨ 57 < sep.toNat) (h : 0 ≤ x.1 ∧ x.1 < 10 ∧ 0 ≤ x.2 ∧ x.2 < 10) : cutL sep (tx sep x) = [fmtI x.1, fmtI x.2] := by
  have := cutL_glue (b := sep) (w := fmtI x.1) (ts := [fmtI x.2]) (fmtI_no h.1 h.2.1 hs) (fun t ht => by simp at ht; subst ht; exact fmtI_no h.2.2.1 h.2.2.2 hs)
  simpa [tx] using this
theorem tx_no {sep c : UInt8} {x : Int × Int} (hs : c.toNat < 48 ∨ 57 < c.toNat) (hc : c ≠ sep) (h : 0 ≤ x.1 ∧ x.1 < 10 ∧ 0 ≤ x.2 ∧ x.2 < 10) : c ∉ tx sep x := by
  unfold tx
  simp only [List.mem_append, List.mem_cons, not_or]
  exact ⟨fmtI_no h.1 h.2.1 hs, hc, fmtI_no h.2.2.1 h.2.2.2 hs⟩
theorem ptxt_map (sep : UInt8) (l : List (Int × Int)) : ptxt sep l = (l.map (tx sep)).flatMap fun t => 32 :: t := by
  unfold ptxt tx
  rw [List.flatMap_map]
/-- the words of a graph -/
def wordsG (g : GraphT) : List (List UInt8) := (fmtI g.1 ++ [58]) :: g.2.map (tx 45)
def wordsF (f : FwT) : List (List UInt8) := (fmtI f.1 ++ [58]) :: (f.2.1.map (tx 45) ++ [97, 116] :: f.2.2.map (tx 44))
theorem okG {g : GraphT} (h : isGraphB g = true) : (1 ≤ g.1 ∧ g.1 < 10) ∧ ∀ x ∈ g.2, 0 ≤ x.1 ∧ x.1 < 10 ∧ 0 ≤ x.2 ∧ x.2 < 10 := by
  obtain ⟨p, l⟩ := g
  have hb := isGraphB_bd h
  refine ⟨by dsimp only; omega, fun x hx => ?_⟩
  obtain ⟨i, hi, rfl⟩ := List.getElem_of_mem hx
  have := isGraphB_bar h (List.getElem?_eq_getElem hi)
  dsimp only at *
  omega
theorem headFree {x : Int} (h0 : 0 ≤ x) (h1 : x < 10) : (32 : UInt8) ∉ fmtI x ++ [58] := by
  simp only [List.mem_append, not_or]
  exact ⟨fmtI_no h0 h1 (by decide), by decide⟩
theorem fmtG_glue {g : GraphT} (h : isGraphB g = true) : fmtG g = (fmtI g.1 ++ [58]) ++ (g.2.map (tx 45)).flatMap fun t => 32 :: t := by
  unfold fmtG; rw [if_pos h, ptxt_map]
theorem fmtG_cut {g : GraphT} (h : isGraphB g = true) : cutL 32 (fmtG g) = wordsG g := by
  obtain ⟨h1, h2⟩ := okG h
  rw [fmtG_glue h, cutL_glue (headFree (by omega) h1.2)]
  · rfl
  · intro t ht
    obtain ⟨x, hx, rfl⟩ := List.mem_map.1 ht
    exact tx_no (by decide) (by decide) (h2 x hx)
theorem okF {f : FwT} (h : isFwB f = true) : isGraphB (f.1, f.2.1) = true ∧ ∀ x ∈ f.2.2, 0 ≤ x.1 ∧ x.1 < 10 ∧ 0 ≤ x.2 ∧ x.2 < 10 := by
  obtain ⟨p, l, q⟩ := f
  obtain ⟨h1, h2, h3, h4, h5⟩ := isFw_facts2 h
  refine ⟨h4, fun x hx => ?_⟩
  obtain ⟨i, hi⟩ := List.getElem?_of_mem hx
  obtain ⟨x1, x2⟩ := x
  have := h5 i _ _ hi
  dsimp only
  omega
theorem fmtF_cut {f : FwT} (h : isFwB f = true) : cutL 32 (fmtF f) = wordsF f := by
  obtain ⟨hg, hq⟩ := okF h
  obtain ⟨h1, h2⟩ := okG hg
  have e : fmtF f = (fmtI f.1 ++ [58]) ++ (f.2.1.map (tx 45) ++ [97, 116] :: f.2.2.map (tx 44)).flatMap fun t => 32 :: t := by
    unfold fmtF; rw [if_pos h, fmtG_glue hg, ptxt_map]; simp
  rw [e, cutL_glue (headFree (by dsimp only at h1; omega) h1.2)]
  · rfl
  · intro t ht
    simp only [List.mem_append, List.mem_cons, List.mem_map] at ht
    rcases ht with ⟨x, hx, rfl⟩ | rfl | ⟨x, hx, rfl⟩
    · exact tx_no (by decide) (by decide) (h2 x hx)
    · decide
    · exact tx_no (by decide) (by decide) (hq x hx)
/-- the place of the word 'at' -/
theorem wordsF_at {f : FwT} (h : isFwB f = true) {k : Nat} (hk : (wordsF f)[k]? = some [97, 116] ∨ k = (wordsF f).length) (hlt : ∀ j, j < k → (wordsF f)[j]? ≠ some [97, 116]) : k = f.2.1.length + 1 := by
  obtain ⟨hg, hq⟩ := okF h
  obtain ⟨h1, h2⟩ := okG hg
  have hat : (wordsF f)[f.2.1.length + 1]? = some [97, 116] := by
    unfold wordsF
    rw [List.getElem?_cons_succ, List.getElem?_append_right (by simp)]
    simp
  have hlen : (wordsF f).length = f.2.1.length + 1 + f.2.2.length + 1 := by unfold wordsF; simp; omega
  have hle : k ≤ f.2.1.length + 1 := by
    rcases Nat.lt_or_ge (f.2.1.length + 1) k with hh | hh
    · exact absurd hat (hlt _ hh)
    · exact hh
  rcases hk with hk | hk
  · rcases Nat.lt_or_ge k (f.2.1.length + 1) with hh | hh
    · exfalso
      unfold wordsF at hk
      cases k with
      | zero =>
        simp at hk
        have := congrArg List.getLast? hk
        simp at this
      | succ k =>
        rw [List.getElem?_cons_succ, List.getElem?_append_left (by simp; omega), List.getElem?_map] at hk
        cases hx : f.2.1[k]? with
        | none => rw [hx] at hk; simp at hk
        | some x =>
          rw [hx] at hk
          simp at hk
          have h3 : (45 : UInt8) ∈ tx 45 x := by unfold tx; simp
          rw [hk] at h3
          simp at h3
    · omega
  · omega
theorem wordsF_take {f : FwT} (h : isFwB f = true) : jnTo [32] (wordsF f) (f.2.1.length + 1) = fmtG (f.1, f.2.1) := by
  rw [fmtG_glue (okF h).1]
  unfold wordsF
  rw [jn_flat _ (by simp)]
  congr 2
  rw [List.take_append_of_le_length (by simp), List.take_of_length_le (by simp)]
theorem wordsF_place {f : FwT} (i : Nat) : (wordsF f)[f.2.1.length + 1 + 1 + i]? = (f.2.2.map (tx 44))[i]? := by
  unfold wordsF
  rw [show f.2.1.length + 1 + 1 + i = (f.2.1.length + 1 + i) + 1 by omega, List.getElem?_cons_succ, List.getElem?_append_right (by simp; omega)]
  rw [show f.2.1.length + 1 + i - (f.2.1.map (tx 45)).length = i + 1 by simp; omega, List.getElem?_cons_succ]
end Go.Proofs.Ytnjecekaenddiaa
