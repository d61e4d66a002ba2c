/- The law on motions, in plain words: what spans the null space of the rigidity matrix is a motion, motions of the plane are motions and trivial, fixing a joint keeps a motion. No program in sight. -/
import Derived.Test.YtfbmpkdjhhcnpaaMoP27
import Derived.Test.YtfbmpkdjhhcnpaaMoP29
import Derived.Test.YtfbmpkdjhhcnpaaMoP31
import Derived.Test.YtfbmpkdjhhcnpaaMoP32
import Derived.Test.YtfbmpkdjhhcnpaaMoP35
namespace Go.Proofs.Ytfbmpkdjhhcnpaa
open Go.RowKit Gr
set_option maxRecDepth 100000
set_option linter.unusedVariables false
set_option linter.unusedSimpArgs false
theorem wr_in {x : Int} (h1 : -9223372036854775808 ≤ x) (h2 : x ≤ 9223372036854775807) : wrap64 x = x := by unfold wrap64; omega
theorem dt_cm (n : Nat) (x y : Nat → Int) : dt n x y = dt n y x := by
  induction n with
  | zero => rfl
  | succ n ih => show dt n x y + x n * y n = dt n y x + y n * x n; rw [ih, Int.mul_comm]
/-- a motion's value, without the bounds of numbers -/
def cgE (q : List PlaceT) (v : List Int) (a b : Nat) : Int := (pX q a - pX q b) * (vN v (2 * a) - vN v (2 * b)) + (pY q a - pY q b) * (vN v (2 * a + 1) - vN v (2 * b + 1))
theorem chg_val {x1 y1 x2 y2 u1 t1 u2 t2 : Int} (h1 : 0 ≤ x1 ∧ x1 ≤ 4) (h2 : 0 ≤ y1 ∧ y1 ≤ 4) (h3 : 0 ≤ x2 ∧ x2 ≤ 4) (h4 : 0 ≤ y2 ∧ y2 ≤ 4)
    (g1 : -10000000000 ≤ u1 ∧ u1 ≤ 10000000000) (g2 : -10000000000 ≤ t1 ∧ t1 ≤ 10000000000) (g3 : -10000000000 ≤ u2 ∧ u2 ≤ 10000000000) (g4 : -10000000000 ≤ t2 ∧ t2 ≤ 10000000000) :
    chg x1 y1 x2 y2 u1 t1 u2 t2 = (x1 - x2) * (u1 - u2) + (y1 - y2) * (t1 - t2) := by
  unfold chg
  have m1 := mul4 (x := x1 - x2) (y := u1 - u2) (M := 20000000000) (by omega) (by omega) (by omega) (by omega)
  have m2 := mul4 (x := y1 - y2) (y := t1 - t2) (M := 20000000000) (by omega) (by omega) (by omega) (by omega)
  rw [wr_in (x := x1 - x2) (by omega) (by omega), wr_in (x := u1 - u2) (by omega) (by omega), wr_in (x := y1 - y2) (by omega) (by omega), wr_in (x := t1 - t2) (by omega) (by omega)]
  generalize (x1 - x2) * (u1 - u2) = A at *
  generalize (y1 - y2) * (t1 - t2) = B at *
  rw [wr_in (x := A) (by omega) (by omega), wr_in (x := B) (by omega) (by omega), wr_in (by omega) (by omega)]
theorem change_val {p : Int} {l : List BarT} {q : List PlaceT} {v : List Int} (h : velB (p, l, q) v = true) {a b : Int} (ha : 0 ≤ a ∧ a < p) (hb : 0 ≤ b ∧ b < p) : changeF (p, l, q) v a b = cgE q v a.toNat b.toNat := by
  obtain ⟨h1, h2, h3, h4, h5, h6⟩ := velB_facts h
  unfold changeF
  rw [if_pos (by simp only [h, Bool.true_and, Bool.and_eq_true, decide_eq_true_eq]; omega)]
  have p1 := h5 a.toNat (by omega)
  have p2 := h5 b.toNat (by omega)
  exact chg_val p1.1 p1.2 p2.1 p2.2 (h6 _ (by omega)) (h6 _ (by omega)) (h6 _ (by omega)) (h6 _ (by omega))
theorem cgE_comm (q : List PlaceT) (v : List Int) (a b : Nat) : cgE q v a b = cgE q v b a := by unfold cgE; grind
/-- ChangeOf does not hang on the two joints' order -/
theorem changeF_comm (f : FwT) (v : List Int) (a b : Int) : changeF f v a b = changeF f v b a := by
  obtain ⟨p, l, q⟩ := f
  by_cases h : velB (p, l, q) v = true ∧ (0 ≤ a ∧ a < p) ∧ (0 ≤ b ∧ b < p)
  · rw [change_val h.1 h.2.1 h.2.2, change_val h.1 h.2.2 h.2.1, cgE_comm]
  · have n1 : (velB (p, l, q) v && (decide (0 ≤ a) && (decide (0 ≤ b) && (decide (a < p) && decide (b < p))))) = false := by
      rw [Bool.eq_false_iff]
      intro e
      simp only [Bool.and_eq_true, decide_eq_true_eq] at e
      exact h ⟨e.1, ⟨e.2.1, e.2.2.2.1⟩, e.2.2.1, e.2.2.2.2⟩
    have n2 : (velB (p, l, q) v && (decide (0 ≤ b) && (decide (0 ≤ a) && (decide (b < p) && decide (a < p))))) = false := by
      rw [Bool.eq_false_iff]
      intro e
      simp only [Bool.and_eq_true, decide_eq_true_eq] at e
      exact h ⟨e.1, ⟨e.2.2.1, e.2.2.2.2⟩, e.2.1, e.2.2.2.1⟩
    rw [changeF_no n1, changeF_no n2]
theorem motB_iff {p : Int} {l : List BarT} {q : List PlaceT} {v : List Int} (h : velB (p, l, q) v = true) : motB (p, l, q) v = true ↔ ∀ x ∈ l, cgE q v x.1.toNat x.2.toNat = 0 := by
  have hg := (velB_bd h).2.2.2.2.2
  unfold motB
  rw [h, Bool.true_and, List.all_eq_true]
  have hb : ∀ x ∈ l, motOk (p, l, q) v x = true ↔ cgE q v x.1.toNat x.2.toNat = 0 := fun x hx => by
    obtain ⟨k, hk⟩ := List.getElem?_of_mem hx
    have := isGraphB_bar hg hk
    unfold motOk
    rw [change_val h (by omega) (by omega), beq_iff_eq]
  exact ⟨fun h x hx => (hb x hx).1 (h x hx), fun h x hx => (hb x hx).2 (h x hx)⟩
theorem pair_cg {q : List PlaceT} {v : List Int} {a b : Nat} (h : PairAt q v a b) : cgE q v a b = 0 := by
  have h1 := h.1
  unfold dX dY uX uY at h1
  unfold cgE
  grind
/-- a trivial motion is a motion -/
theorem triv_mot {f : FwT} {v : List Int} (h : trivB f v = true) : motB f v = true := by
  obtain ⟨p, l, q⟩ := f
  unfold trivB at h
  simp only [Bool.and_eq_true] at h
  obtain ⟨hv, hp, -⟩ := h
  rw [motB_iff hv]
  intro x hx
  obtain ⟨k, hk⟩ := List.getElem?_of_mem hx
  obtain ⟨g1, g2, g3, g4, g5, g6⟩ := velB_bd hv
  have hb := isGraphB_bar g6 hk
  simp only [pairB, decide_eq_true_eq] at hp
  rw [cgE_comm]
  exact pair_cg (hp x.2.toNat (by omega) x.1.toNat (by omega))
theorem velB_of {p : Int} {l : List BarT} {q : List PlaceT} {v : List Int} (hf : isFwB (p, l, q) = true) (hl : (v.length : Int) = 2 * p) (hs : ∀ k, k < v.length → -10000000000 ≤ vN v k ∧ vN v k ≤ 10000000000) : velB (p, l, q) v = true := by
  unfold velB
  simp only [Bool.and_eq_true, decide_eq_true_eq, List.all_eq_true]
  refine ⟨fun x hx => ?_, hf, hl⟩
  obtain ⟨k, hk⟩ := List.getElem?_of_mem hx
  have h1 := hs k (lt_of_getElem? hk)
  unfold vN at h1
  rw [hk, Option.getD_some] at h1
  simp only [smallV, inB, Bool.and_eq_true, decide_eq_true_eq]
  exact h1
theorem vN_row {n k : Nat} {f : Nat → Int} (h : k < n) : vN (rowL n f) k = f k := by unfold vN; rw [rowL_get h, Option.getD_some]
/-- what the null space of the rigidity matrix holds is a motion, and its numbers are small -/
theorem mot_null {f : FwT} {v : List Int} (h : v ∈ motL f) : motB f v = true ∧ ∀ k, k < v.length → -2000000000 ≤ vN v k ∧ vN v k ≤ 2000000000 := by
  obtain ⟨p, l, q⟩ := f
  unfold motL at h
  split at h
  rotate_left
  · simp at h
  rename_i hf
  dsimp only at h
  obtain ⟨⟨h1, h2⟩, h3, h4, h5, h6⟩ := isFw_facts hf
  have hft := fit_rig hf
  dsimp only at hft
  obtain ⟨f0, hv0, hb0⟩ := nullL_bd hft h (b := 1073741824) (by decide)
  obtain ⟨f1, hv1, hk1⟩ := nullL_ker h
  have hvl : v.length = 2 * p.toNat := by rw [hv1, rowL_length]
  have hsm : ∀ k, k < v.length → -2000000000 ≤ vN v k ∧ vN v k ≤ 2000000000 := fun k hk => by
    rw [hv0, vN_row (by omega)]
    have := primF_bd hb0 (k := k) (by omega)
    omega
  refine ⟨?_, hsm⟩
  have hvel : velB (p, l, q) v = true := velB_of hf (by omega) fun k hk => by have := hsm k hk; omega
  rw [motB_iff hvel]
  intro x hx
  obtain ⟨i, hi⟩ := List.getElem?_of_mem hx
  obtain ⟨a1, a2, a3⟩ := isGraphB_bar h5 hi
  have e : rigM (p, l, q) = l.map (rigRow p q) := by simp only [rigM, hf]; rfl
  have hil := lt_of_getElem? hi
  have hrow : (rigM (p, l, q))[i]? = some (rowL (2 * p.toNat) (rigF q x)) := by rw [e, List.getElem?_map, hi]; rfl
  have hdt := hk1 i (by rw [e, List.length_map]; exact hil)
  rw [dt_congr fun k hk => entF_rowL hrow hk, dt_cm] at hdt
  obtain ⟨x1, y1, e1, -, -⟩ := plAt_bd hf (i := x.1.toNat) (by omega)
  obtain ⟨x2, y2, e2, -, -⟩ := plAt_bd hf (i := x.2.toNat) (by omega)
  rw [rigF_eq q e1 e2] at hdt
  rw [dt_upd (by omega), dt_upd (by omega), dt_upd (by omega), dt_upd (by omega), dt_zero] at hdt
  rw [if_neg (by omega), if_neg (by omega), if_neg (by omega), if_neg (by omega), if_neg (by omega), if_neg (by omega)] at hdt
  unfold cgE pX pY
  rw [e1, e2, hv1, vN_row (by omega), vN_row (by omega), vN_row (by omega), vN_row (by omega)]
  dsimp only
  grind
theorem mot_cnt {f : FwT} (h : isFwB f = true) : ((motL f).length : Int) + frkF f = 2 * f.1 := by
  obtain ⟨p, l, q⟩ := f
  have h1 := (isFw_facts h).1
  unfold motL frkF
  rw [if_pos h, if_pos h]
  have := nullL_cnt (rigM (p, l, q)) (2 * p.toNat)
  dsimp only at this ⊢
  omega
theorem flat_two {α : Type} (g h : α → Int) : ∀ (q : List α) (i : Nat) (x : α), q[i]? = some x → vN (q.flatMap fun y => [g y, h y]) (2 * i) = g x ∧ vN (q.flatMap fun y => [g y, h y]) (2 * i + 1) = h x
  | [], i, x, hx => by simp at hx
  | y :: q, 0, x, hx => by
    simp at hx
    subst hx
    simp [vN]
  | y :: q, i + 1, x, hx => by
    have := flat_two g h q i x (by simpa using hx)
    rw [show 2 * (i + 1) = 2 * i + 1 + 1 by omega]
    simpa [vN] using this
theorem flat_len {α : Type} (g h : α → Int) : ∀ q : List α, (q.flatMap fun y => [g y, h y]).length = 2 * q.length
  | [] => rfl
  | x :: q => by
    have := flat_len g h q
    simp only [List.flatMap_cons, List.length_append, List.length_cons, List.length_nil] at this ⊢
    omega
/-- motions of the plane are trivial, and their numbers are small -/
theorem plane_triv {f : FwT} {v : List Int} (h : v ∈ plmL f) : trivB f v = true ∧ ∀ k, k < v.length → -2000000000 ≤ vN v k ∧ vN v k ≤ 2000000000 := by
  obtain ⟨p, l, q⟩ := f
  unfold plmL at h
  split at h
  rotate_left
  · simp at h
  rename_i hf
  obtain ⟨⟨h1, h2⟩, h3, h4, h5, h6⟩ := isFw_facts hf
  obtain ⟨g, k, hgk, hvq⟩ : ∃ g k : PlaceT → Int, ((∀ x, g x = 1 ∧ k x = 0) ∨ (∀ x, g x = 0 ∧ k x = 1) ∨ (∀ x : PlaceT, g x = -x.2 ∧ k x = x.1)) ∧ v = q.flatMap fun y => [g y, k y] := by
    simp only [plR, List.mem_cons, List.not_mem_nil, or_false] at h
    rcases h with rfl | rfl | rfl
    · exact ⟨fun _ => 1, fun _ => 0, .inl fun x => ⟨rfl, rfl⟩, rfl⟩
    · exact ⟨fun _ => 0, fun _ => 1, .inr (.inl fun x => ⟨rfl, rfl⟩), rfl⟩
    · exact ⟨fun x => -x.2, fun x => x.1, .inr (.inr fun x => ⟨rfl, rfl⟩), rfl⟩
  have hat : ∀ i, i < q.length → vN v (2 * i) = g (plAt q i) ∧ vN v (2 * i + 1) = k (plAt q i) := fun i hi => by
    rw [hvq]
    have h9 := flat_two g k q i q[i] (List.getElem?_eq_getElem hi)
    rw [show plAt q i = q[i] by simp only [plAt, List.getElem?_eq_getElem hi, Option.getD_some]]
    exact h9
  have hlen : v.length = 2 * q.length := by
    rw [hvq]; exact flat_len _ _ q
  have hsm : ∀ j, j < v.length → -2000000000 ≤ vN v j ∧ vN v j ≤ 2000000000 := fun j hj => by
    obtain ⟨x, y, e, hx, hy⟩ := plAt_bd hf (i := j / 2) (by omega)
    have h9 := hat (j / 2) (by omega)
    rw [e] at h9
    have hj2 : j = 2 * (j / 2) ∨ j = 2 * (j / 2) + 1 := by omega
    rcases hgk with h8 | h8 | h8
    · have h7 := h8 (x, y); rcases hj2 with e2 | e2 <;> rw [e2] <;> omega
    · have h7 := h8 (x, y); rcases hj2 with e2 | e2 <;> rw [e2] <;> omega
    · have h7 := h8 (x, y); dsimp only at h7; rcases hj2 with e2 | e2 <;> rw [e2] <;> omega
  refine ⟨?_, hsm⟩
  have hvel : velB (p, l, q) v = true := velB_of hf (by omega) fun j hj => by have := hsm j hj; omega
  unfold trivB
  rw [hvel, Bool.true_and, triv_iff]
  show TrS q.length (dX q) (dY q) (uX v) (uY v)
  have hu : ∀ i, i < q.length → (uX v i = 0 ∧ uY v i = 0) ∨ (uX v i = -dY q i ∧ uY v i = dX q i) := fun i hi => by
    have h9 := hat i hi
    have h8 := hat 0 (by omega)
    simp only [Nat.mul_zero, Nat.zero_add] at h8
    unfold uX uY dX dY pX pY
    rcases hgk with h7 | h7 | h7
    · left; have a1 := h7 (plAt q i); have a2 := h7 (plAt q 0); omega
    · left; have a1 := h7 (plAt q i); have a2 := h7 (plAt q 0); omega
    · right; have a1 := h7 (plAt q i); have a2 := h7 (plAt q 0); omega
  have hall : (∀ i, i < q.length → uX v i = 0 ∧ uY v i = 0) ∨ (∀ i, i < q.length → uX v i = -dY q i ∧ uY v i = dX q i) := by
    rcases hgk with h7 | h7 | h7
    · left; intro i hi
      have h9 := hat i hi
      have h8 := hat 0 (by omega)
      simp only [Nat.mul_zero, Nat.zero_add] at h8
      unfold uX uY
      have a1 := h7 (plAt q i); have a2 := h7 (plAt q 0); omega
    · left; intro i hi
      have h9 := hat i hi
      have h8 := hat 0 (by omega)
      simp only [Nat.mul_zero, Nat.zero_add] at h8
      unfold uX uY
      have a1 := h7 (plAt q i); have a2 := h7 (plAt q 0); omega
    · right; intro i hi
      have h9 := hat i hi
      have h8 := hat 0 (by omega)
      simp only [Nat.mul_zero, Nat.zero_add] at h8
      unfold uX uY dX dY pX pY
      have a1 := h7 (plAt q i); have a2 := h7 (plAt q 0); omega
  rcases hall with h7 | h7
  · exact ⟨fun a ha b hb => by rw [(h7 a ha).1, (h7 a ha).2, (h7 b (by omega)).1, (h7 b (by omega)).2]; simp, fun a ha b hb _ _ => by rw [(h7 a ha).1, (h7 a ha).2, (h7 b (by omega)).1, (h7 b (by omega)).2]; exact ⟨rfl, rfl⟩, fun a ha b hb _ _ => by rw [(h7 a ha).1, (h7 a ha).2, (h7 b (by omega)).1, (h7 b (by omega)).2]; simp⟩
  · exact ⟨fun a ha b hb => by rw [(h7 a ha).1, (h7 a ha).2, (h7 b (by omega)).1, (h7 b (by omega)).2]; grind, fun a ha b hb e1 e2 => by rw [(h7 a ha).1, (h7 a ha).2, (h7 b (by omega)).1, (h7 b (by omega)).2]; omega, fun a ha b hb _ e => by rw [(h7 a ha).1, (h7 a ha).2, (h7 b (by omega)).1, (h7 b (by omega)).2]; grind⟩
/-- fixing a joint -/
theorem fix_law {f : FwT} {v : List Int} {a : Int} (h : fixOk f v a = true) (hs : ∀ k, k < v.length → -2000000000 ≤ vN v k ∧ vN v k ≤ 2000000000) :
    motB f (fixF f v a) = true ∧ vN (fixF f v a) (2 * a.toNat) = 0 ∧ vN (fixF f v a) (2 * a.toNat + 1) = 0 ∧ trivB f (fixF f v a) = trivB f v ∧ (fixF f v a).length = 2 * f.1.toNat ∧ (0 ≤ a ∧ a < f.1) := by
  obtain ⟨p, l, q⟩ := f
  rw [fixF_yes h]
  unfold fixOk at h
  simp only [Bool.and_eq_true, decide_eq_true_eq] at h
  obtain ⟨hm, ha0, hap⟩ := h
  have hvel : velB (p, l, q) v = true := by unfold motB at hm; simp only [Bool.and_eq_true] at hm; exact hm.1
  obtain ⟨h1, h2, h3, h4, h5, h6⟩ := velB_facts hvel
  dsimp only at hap ⊢
  have hat : ∀ i, i < 2 * p.toNat → vN (fixL v a.toNat p.toNat) i = vN v i - vN v (2 * a.toNat + i % 2) := fun i hi => by
    unfold fixL
    rw [vN_row hi]
    unfold fixTo
    rw [if_pos hi]
    rfl
  have hlen : (fixL v a.toNat p.toNat).length = 2 * p.toNat := by unfold fixL; rw [rowL_length]
  have hvel2 : velB (p, l, q) (fixL v a.toNat p.toNat) = true := velB_of h4 (by omega) fun k hk => by
    rw [hat k (by omega)]
    have := hs k (by omega)
    have := hs (2 * a.toNat + k % 2) (by omega)
    omega
  have hev : ∀ i, i < q.length → vN (fixL v a.toNat p.toNat) (2 * i) = vN v (2 * i) - vN v (2 * a.toNat) ∧ vN (fixL v a.toNat p.toNat) (2 * i + 1) = vN v (2 * i + 1) - vN v (2 * a.toNat + 1) := fun i hi => by
    rw [hat (2 * i) (by omega), hat (2 * i + 1) (by omega), show 2 * i % 2 = 0 by omega, show (2 * i + 1) % 2 = 1 by omega]
    exact ⟨rfl, rfl⟩
  have hcg : ∀ i j, i < q.length → j < q.length → cgE q (fixL v a.toNat p.toNat) i j = cgE q v i j := fun i j hi hj => by
    unfold cgE
    rw [(hev i hi).1, (hev i hi).2, (hev j hj).1, (hev j hj).2]
    grind
  refine ⟨?_, ?_, ?_, ?_, hlen, ha0, hap⟩
  · rw [motB_iff hvel2]
    intro x hx
    obtain ⟨k, hk⟩ := List.getElem?_of_mem hx
    have hb := isGraphB_bar (velB_bd hvel).2.2.2.2.2 hk
    rw [hcg _ _ (by omega) (by omega)]
    exact (motB_iff hvel).1 hm x hx
  · rw [(hev a.toNat (by omega)).1]; omega
  · rw [(hev a.toNat (by omega)).2]; omega
  · have hu : ∀ i, i < q.length → uX (fixL v a.toNat p.toNat) i = uX v i ∧ uY (fixL v a.toNat p.toNat) i = uY v i := fun i hi => by
      have e0 := hev 0 (by omega)
      simp only [Nat.mul_zero, Nat.zero_add] at e0
      unfold uX uY
      rw [(hev i hi).1, (hev i hi).2, e0.1, e0.2]
      omega
    unfold trivB
    rw [hvel, hvel2, Bool.true_and, Bool.true_and]
    have e1 : pairB q (fixL v a.toNat p.toNat) = pairB q v := by
      unfold pairB
      congr 1
      apply propext
      constructor <;> intro h a1 ha1 b1 hb1 <;> have h9 := h a1 ha1 b1 hb1 <;> unfold PairAt at h9 ⊢
      · rwa [(hu a1 ha1).1, (hu a1 ha1).2, (hu b1 (by omega)).1, (hu b1 (by omega)).2] at h9
      · rwa [(hu a1 ha1).1, (hu a1 ha1).2, (hu b1 (by omega)).1, (hu b1 (by omega)).2]
    have e2 : flatB q (fixL v a.toNat p.toNat) = flatB q v := by
      unfold flatB
      congr 1
      apply propext
      constructor <;> intro h a1 ha1 b1 hb1 hb2 <;> have h9 := h a1 ha1 b1 hb1 hb2 <;> unfold FlatAt at h9 ⊢
      · rwa [(hu a1 ha1).1, (hu a1 ha1).2, (hu b1 (by omega)).1, (hu b1 (by omega)).2] at h9
      · rwa [(hu a1 ha1).1, (hu a1 ha1).2, (hu b1 (by omega)).1, (hu b1 (by omega)).2]
    rw [e1, e2]
end Go.Proofs.Ytfbmpkdjhhcnpaa

