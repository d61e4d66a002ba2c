/- Bars of the plane: (2,3)-sparse sets; independent bars are no more than the bars that span them (the count matroid). Plain Lean, no condition. -/
set_option linter.unusedSimpArgs false
set_option linter.unusedVariables false
namespace Mtr
abbrev E := Int × Int
def inn (S : Int → Bool) (e : E) : Bool := S e.1 && S e.2
def ic (I : List E) (S : Int → Bool) : Nat := I.countP (inn S)
def sz (n : Nat) (S : Int → Bool) : Nat := (List.range n).countP fun v : Nat => S (v : Int)
def uni (S T : Int → Bool) : Int → Bool := fun v => S v || T v
def int (S T : Int → Bool) : Int → Bool := fun v => S v && T v
/-- every set of points spans no more than 2 s - 3 -/
def Ind (n : Nat) (I : List E) : Prop := ∀ S, 0 < ic I S → ic I S + 3 ≤ 2 * sz n S
def Tgt (n : Nat) (I : List E) (S : Int → Bool) : Prop := 0 < ic I S ∧ ic I S + 3 = 2 * sz n S
/-- a bar of the graph -/
def Bk (n : Nat) (e : E) : Prop := 0 ≤ e.1 ∧ e.1 < e.2 ∧ e.2 < n
def Spn (n : Nat) (I : List E) (e : E) : Prop := ∃ S, Tgt n I S ∧ inn S e = true

theorem countP_not {α : Type} (p : α → Bool) : ∀ l : List α, l.length = l.countP p + l.countP fun e => !p e
  | [] => rfl
  | a :: l => by
    have := countP_not p l
    rw [List.countP_cons, List.countP_cons, List.length_cons]
    cases h : p a <;> simp <;> omega
theorem sz_mod (n : Nat) (S T : Int → Bool) : sz n (uni S T) + sz n (int S T) = sz n S + sz n T := by
  unfold sz
  induction List.range n with
  | nil => rfl
  | cons a l ih =>
    simp only [List.countP_cons, uni, int] at ih ⊢
    cases hS : S a <;> cases hT : T a <;> simp [hS, hT] <;> omega
theorem ic_mod (I : List E) (S T : Int → Bool) : ic I S + ic I T ≤ ic I (uni S T) + ic I (int S T) := by
  unfold ic
  induction I with
  | nil => exact Nat.le_refl _
  | cons a l ih =>
    simp only [List.countP_cons]
    have e1 : inn (uni S T) a = ((S a.1 || T a.1) && (S a.2 || T a.2)) := rfl
    have e2 : inn (int S T) a = ((S a.1 && T a.1) && (S a.2 && T a.2)) := rfl
    have e3 : inn S a = (S a.1 && S a.2) := rfl
    have e4 : inn T a = (T a.1 && T a.2) := rfl
    by_cases h1 : S a.1 = true <;> by_cases h2 : T a.1 = true <;> by_cases h3 : S a.2 = true <;> by_cases h4 : T a.2 = true <;> (try simp only [Bool.not_eq_true] at h1 h2 h3 h4) <;> (simp only [e1, e2, e3, e4, h1, h2, h3, h4]; simp; try omega)
theorem ic_mono {I : List E} {S T : Int → Bool} (h : ∀ e ∈ I, inn S e = true → inn T e = true) : ic I S ≤ ic I T := List.countP_mono_left h
theorem ic_sub {I J : List E} (h : I.Sublist J) (S : Int → Bool) : ic I S ≤ ic J S := h.countP_le
theorem sz_mono {n : Nat} {S T : Int → Bool} (h : ∀ v : Nat, v < n → S v = true → T v = true) : sz n S ≤ sz n T :=
  List.countP_mono_left fun v hv hs => h v (List.mem_range.1 hv) hs
theorem sz_le (n : Nat) (S : Int → Bool) : sz n S ≤ n := by
  have := List.countP_le_length (p := fun v : Nat => S (v : Int)) (l := List.range n)
  simpa [sz] using this
/-- two different points -/
theorem sz_two {n : Nat} {S : Int → Bool} {e : E} (hb : Bk n e) (h : inn S e = true) : 2 ≤ sz n S := by
  obtain ⟨a, b⟩ := e
  obtain ⟨h0, h1, h2⟩ := hb
  simp only [inn, Bool.and_eq_true] at h h0 h1 h2
  obtain ⟨x, rfl⟩ := Int.eq_ofNat_of_zero_le h0
  obtain ⟨y, rfl⟩ := Int.eq_ofNat_of_zero_le (show 0 ≤ b by omega)
  have hs : ([x, y] : List Nat).Sublist (List.range n) := by
    have e1 : List.range n = List.range' 0 n := by rw [List.range_eq_range']
    have h3 : x < n := by omega
    have h4 : y < n := by omega
    have h5 : x < y := by omega
    have : List.range n = List.range y ++ (List.range (n - y)).map (y + ·) := by
      rw [← List.range_add]; congr 1; omega
    rw [this]
    refine List.Sublist.append (l₁ := [x]) (List.singleton_sublist.2 (List.mem_range.2 h5)) (List.singleton_sublist.2 (List.mem_map.2 ⟨0, List.mem_range.2 (by omega), by simp⟩))
  have := hs.countP_le (p := fun v : Nat => S (v : Int))
  unfold sz
  have h6 : ([x, y] : List Nat).countP (fun v : Nat => S (v : Int)) = 2 := by
    have g1 : S (x : Int) = true := h.1
    have g2 : S (y : Int) = true := h.2
    simp [List.countP_cons, g1, g2]
  omega
theorem tgt_uni {n : Nat} {I : List E} (hI : Ind n I) {S T : Int → Bool} (hS : Tgt n I S) (hT : Tgt n I T) {e : E} (hb : Bk n e) (h1 : inn S e = true) (h2 : inn T e = true) : Tgt n I (uni S T) := by
  have m1 := sz_mod n S T
  have m2 := ic_mod I S T
  have hi : inn (int S T) e = true := by simp only [inn, int, Bool.and_eq_true] at *; exact ⟨⟨h1.1, h2.1⟩, h1.2, h2.2⟩
  have h3 := sz_two hb hi
  have h4 : ic I S ≤ ic I (uni S T) := ic_mono fun e _ h => by simp only [inn, uni, Bool.and_eq_true, Bool.or_eq_true] at *; exact ⟨.inl h.1, .inl h.2⟩
  obtain ⟨p1, p2⟩ := hS
  obtain ⟨q1, q2⟩ := hT
  have h5 := hI (uni S T) (by omega)
  refine ⟨by omega, ?_⟩
  rcases Nat.eq_zero_or_pos (ic I (int S T)) with h0 | h0
  · omega
  · have h6 := hI _ h0
    omega
/-- the greatest tight set around a bar -/
def Mxl (n : Nat) (I : List E) (e : E) (S : Int → Bool) : Prop := Tgt n I S ∧ inn S e = true ∧ ∀ T, Tgt n I T → inn T e = true → ∀ v : Nat, v < n → T v = true → S v = true
theorem mx_ex {n : Nat} {I : List E} (hI : Ind n I) {e : E} (hb : Bk n e) (h : Spn n I e) : ∃ S, Mxl n I e S := by
  obtain ⟨S0, h0, h1⟩ := h
  have key : ∀ k S, Tgt n I S → inn S e = true → n ≤ sz n S + k → ∃ S, Mxl n I e S := by
    intro k
    induction k with
    | zero =>
      intro S hS he hk
      refine ⟨S, hS, he, fun T hT hTe v hv hTv => ?_⟩
      have hall : ∀ v ∈ List.range n, (fun v : Nat => S (v : Int)) v = true := by
        have : (List.range n).countP (fun v : Nat => S (v : Int)) = (List.range n).length := by
          have := sz_le n S
          unfold sz at *
          rw [List.length_range]; omega
        exact List.countP_eq_length.1 this
      exact hall v (List.mem_range.2 hv)
    | succ k ih =>
      intro S hS he hk
      by_cases hmax : ∀ T, Tgt n I T → inn T e = true → ∀ v : Nat, v < n → T v = true → S v = true
      · exact ⟨S, hS, he, hmax⟩
      · simp only [Classical.not_forall] at hmax
        obtain ⟨T, hT, hTe, v, hv, hTv, hSv⟩ := hmax
        have hU := tgt_uni hI hS hT hb he hTe
        refine ih (uni S T) hU ?_ ?_
        · simp only [inn, uni, Bool.and_eq_true, Bool.or_eq_true] at *; exact ⟨.inl he.1, .inl he.2⟩
        · have : sz n S + 1 ≤ sz n (uni S T) := by
            have hm := sz_mod n S T
            have h2 : sz n (int S T) + 1 ≤ sz n T := by
              have hS' : S (v : Int) = false := by simpa using hSv
              have hr : List.range n = List.range v ++ v :: (List.range (n - v - 1)).map (v + 1 + ·) := by
                have e1 : List.range n = List.range (v + 1) ++ (List.range (n - v - 1)).map (v + 1 + ·) := by rw [← List.range_add]; congr 1; omega
                rw [e1, List.range_succ, List.append_assoc]; rfl
              unfold sz
              rw [hr, List.countP_append, List.countP_cons, List.countP_append, List.countP_cons]
              have a1 : List.countP (fun v : Nat => int S T v) (List.range v) ≤ List.countP (fun v : Nat => T v) (List.range v) := List.countP_mono_left fun w _ h => by simp only [int, Bool.and_eq_true] at h; exact h.2
              have a2 : List.countP (fun v : Nat => int S T v) ((List.range (n - v - 1)).map (v + 1 + ·)) ≤ List.countP (fun v : Nat => T v) ((List.range (n - v - 1)).map (v + 1 + ·)) := List.countP_mono_left fun w _ h => by simp only [int, Bool.and_eq_true] at h; exact h.2
              have a3 : int S T (v : Int) = false := by simp [int, hS']
              have a4 : T (v : Int) = true := hTv
              rw [a3, a4]
              simp only [Bool.false_eq_true, if_false, if_true]
              omega
            omega
          omega
  exact key n S0 h0 h1 (by omega)
/-- greatest tight sets that share a bar are one -/
theorem mx_same {n : Nat} {I : List E} (hI : Ind n I) {e f g : E} {S T : Int → Bool} (hS : Mxl n I e S) (hT : Mxl n I f T) (hg : Bk n g) (g1 : inn S g = true) (g2 : inn T g = true) : ∀ v : Nat, v < n → T v = true → S v = true := by
  intro v hv hTv
  have hU := tgt_uni hI hS.1 hT.1 hg g1 g2
  refine hS.2.2 _ hU ?_ v hv ?_
  · have := hS.2.1
    simp only [inn, uni, Bool.and_eq_true, Bool.or_eq_true] at *; exact ⟨.inl this.1, .inl this.2⟩
  · simp [uni, hTv]
def Apart (n : Nat) (cs : List (Int → Bool)) : Prop := cs.Pairwise fun S T => ∀ g, Bk n g → inn S g = true → inn T g = true → False
theorem comps_ex {n : Nat} {I : List E} (hI : Ind n I) : ∀ J : List E, (∀ e ∈ J, Bk n e ∧ Spn n I e) → ∃ cs : List (Int → Bool), (∀ C ∈ cs, ∃ e, Bk n e ∧ Mxl n I e C) ∧ (∀ e ∈ J, ∃ C ∈ cs, inn C e = true) ∧ Apart n cs
  | [], _ => ⟨[], by simp, by simp, List.Pairwise.nil⟩
  | e :: J, h => by
    obtain ⟨cs, h1, h2, h3⟩ := comps_ex hI J fun f hf => h f (by simp [hf])
    by_cases hin : ∃ C ∈ cs, inn C e = true
    · refine ⟨cs, h1, ?_, h3⟩
      intro f hf
      rcases List.mem_cons.1 hf with rfl | hf
      · exact hin
      · exact h2 f hf
    · obtain ⟨he, hs⟩ := h e (by simp)
      obtain ⟨S, hS⟩ := mx_ex hI he hs
      refine ⟨S :: cs, ?_, ?_, ?_⟩
      · intro C hC
        rcases List.mem_cons.1 hC with rfl | hC
        · exact ⟨e, he, hS⟩
        · exact h1 C hC
      · intro f hf
        rcases List.mem_cons.1 hf with rfl | hf
        · exact ⟨S, by simp, hS.2.1⟩
        · obtain ⟨C, hC, hf⟩ := h2 f hf
          exact ⟨C, by simp [hC], hf⟩
      · refine List.pairwise_cons.2 ⟨fun C hC g hg g1 g2 => ?_, h3⟩
        obtain ⟨f, hf, hM⟩ := h1 C hC
        apply hin
        refine ⟨C, hC, ?_⟩
        have hsub := mx_same hI hM hS hg g2 g1
        obtain ⟨b0, b1, b2⟩ := he
        have hi := hS.2.1
        simp only [inn, Bool.and_eq_true] at hi ⊢
        obtain ⟨x, hx⟩ := Int.eq_ofNat_of_zero_le b0
        obtain ⟨y, hy⟩ := Int.eq_ofNat_of_zero_le (show 0 ≤ e.2 by omega)
        rw [hx, hy] at hi ⊢
        exact ⟨hsub x (by omega) hi.1, hsub y (by omega) hi.2⟩
theorem sum_cover {J : List E} : ∀ {cs : List (Int → Bool)}, (∀ e ∈ J, ∃ C ∈ cs, inn C e = true) → J.length ≤ (cs.map (ic J)).sum := by
  intro cs
  induction cs generalizing J with
  | nil =>
    intro h
    cases J with
    | nil => simp
    | cons e J => obtain ⟨C, hC, _⟩ := h e (by simp); simp at hC
  | cons C cs ih =>
    intro h
    rw [List.map_cons, List.sum_cons]
    have hsplit : J.length = (J.filter (inn C)).length + (J.filter fun e => !inn C e).length := by
      rw [← List.countP_eq_length_filter, ← List.countP_eq_length_filter]; exact countP_not _ _
    have h1 := ih (J := J.filter fun e => !inn C e) fun e he => by
      rw [List.mem_filter] at he
      obtain ⟨D, hD, hi⟩ := h e he.1
      rcases List.mem_cons.1 hD with rfl | hD
      · rw [hi] at he; simp at he
      · exact ⟨D, hD, hi⟩
    have h2 : ((cs.map (ic (J.filter fun e => !inn C e)))).sum ≤ (cs.map (ic J)).sum := by
      clear ih h h1
      induction cs with
      | nil => simp
      | cons D cs ih =>
        simp only [List.map_cons, List.sum_cons]
        have : ic (J.filter fun e => !inn C e) D ≤ ic J D := ic_sub List.filter_sublist D
        omega
    have h3 : (J.filter (inn C)).length = ic J C := List.countP_eq_length_filter.symm
    omega
theorem sum_apart {n : Nat} {I : List E} (hb : ∀ e ∈ I, Bk n e) : ∀ {cs : List (Int → Bool)}, Apart n cs → (cs.map (ic I)).sum ≤ I.length := by
  intro cs
  induction cs generalizing I with
  | nil => simp
  | cons C cs ih =>
    intro h
    obtain ⟨h1, h2⟩ := List.pairwise_cons.1 h
    rw [List.map_cons, List.sum_cons]
    have hsplit : I.length = (I.filter (inn C)).length + (I.filter fun e => !inn C e).length := by
      rw [← List.countP_eq_length_filter, ← List.countP_eq_length_filter]; exact countP_not _ _
    have h3 := ih (I := I.filter fun e => !inn C e) (fun e he => hb e (List.mem_filter.1 he).1) h2
    have h4 : (cs.map (ic I)).sum ≤ (cs.map (ic (I.filter fun e => !inn C e))).sum := by
      clear ih h2 h3 h
      induction cs with
      | nil => simp
      | cons D cs ih =>
        simp only [List.map_cons, List.sum_cons]
        have i1 := ih fun T hT => h1 T (by simp [hT])
        have i2 : ic I D ≤ ic (I.filter fun e => !inn C e) D := by
          unfold ic
          rw [List.countP_filter]
          refine List.countP_mono_left fun e he hD => ?_
          have := h1 D (by simp) e (hb e he)
          cases hc : inn C e
          · simp [hD]
          · exact (this hc hD).elim
        omega
    have h5 : (I.filter (inn C)).length = ic I C := List.countP_eq_length_filter.symm
    omega
/-- what is spanned by independent bars has no more independent ones -/
theorem ind_le {n : Nat} {I J : List E} (hI : Ind n I) (hbI : ∀ e ∈ I, Bk n e) (hJ : Ind n J) (hs : ∀ e ∈ J, Bk n e ∧ Spn n I e) : J.length ≤ I.length := by
  obtain ⟨cs, h1, h2, h3⟩ := comps_ex hI J hs
  refine Nat.le_trans (sum_cover h2) (Nat.le_trans ?_ (sum_apart hbI h3))
  clear h2 h3
  induction cs with
  | nil => simp
  | cons C cs ih =>
    simp only [List.map_cons, List.sum_cons]
    have i1 := ih fun D hD => h1 D (by simp [hD])
    obtain ⟨e, _, hM⟩ := h1 C (by simp)
    have i2 : ic J C ≤ ic I C := by
      rcases Nat.eq_zero_or_pos (ic J C) with h0 | h0
      · omega
      · have := hJ C h0
        have := hM.1.2
        omega
    omega
end Mtr
