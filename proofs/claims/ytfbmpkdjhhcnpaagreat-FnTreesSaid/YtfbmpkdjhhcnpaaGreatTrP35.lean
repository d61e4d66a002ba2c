/- Forests: which bars make a circuit, and each sparse set of bars falls into k forests (Nash-Williams). Plain Lean, no condition but ranges. -/
import Derived.Test.YtfbmpkdjhhcnpaaGreatTrP26
import Derived.Test.YtfbmpkdjhhcnpaaGreatTrP34
import Derived.Test.YtfbmpkdjhhcnpaaGreatTrP25
namespace Fo
set_option linter.unusedVariables false
set_option linter.unusedSimpArgs false
/-- no circuit: as many pieces as points less bars -/
def For (n : Nat) (es : List (Nat × Nat)) : Prop := ∃ g, Lab n es g ∧ fixN n g + es.length = n
theorem Conn.iff {es es' : List (Nat × Nat)} (hs : ∀ e, e ∈ es ↔ e ∈ es') {a b : Nat} : Conn es a b ↔ Conn es' a b := ⟨Conn.mono fun e he => (hs e).1 he, Conn.mono fun e he => (hs e).2 he⟩
theorem Lab.perm {n : Nat} {es es' : List (Nat × Nat)} {g : Nat → Nat} (h : Lab n es g) (hp : es.Perm es') : Lab n es' g :=
  ⟨h.lt, h.idem, fun e he => h.edge e (hp.mem_iff.2 he), fun v w hv hw e => (h.conn v w hv hw e).mono fun x hx => hp.mem_iff.1 hx⟩
theorem For.perm {n : Nat} {es es' : List (Nat × Nat)} (h : For n es) (hp : es.Perm es') : For n es' := by
  obtain ⟨g, h1, h2⟩ := h
  exact ⟨g, h1.perm hp, by rw [← hp.length_eq]; exact h2⟩
theorem For.iff {n : Nat} {es : List (Nat × Nat)} (hr : InR n es) : forestB es = true ↔ For n es := by
  have h := uf_count es hr [] id (lab_id n) (by simp [fixN_id]) (g := mrounds es n) (by simpa using lab_rounds hr)
  unfold forestB
  rw [h, decide_eq_true_iff, List.length_nil, Nat.zero_add]
  refine ⟨fun h2 => ⟨_, lab_rounds hr, h2⟩, fun ⟨g, h1, h2⟩ => ?_⟩
  rw [lab_count_eq (lab_rounds hr) h1]; exact h2
theorem lab_ge {n : Nat} {es : List (Nat × Nat)} (hr : InR n es) {g : Nat → Nat} (h : Lab n es g) : n ≤ fixN n g + es.length := by
  obtain ⟨g2, h1, h2⟩ := lab_ext es hr [] id (lab_id n)
  rw [fixN_id] at h2
  rw [lab_count_eq h (by simpa using h1)]; exact h2
theorem For.nil (n : Nat) : For n [] := ⟨id, lab_id n, by rw [fixN_id]; rfl⟩
theorem InR.snoc {n : Nat} {es : List (Nat × Nat)} (hr : InR n es) {x y : Nat} (hx : x < n) (hy : y < n) : InR n (es ++ [(x, y)]) := fun e he => by
  rcases List.mem_append.1 he with h | h
  · exact hr e h
  · rw [List.mem_singleton.1 h]; exact ⟨hx, hy⟩
theorem For.snoc {n : Nat} {es : List (Nat × Nat)} (hr : InR n es) {x y : Nat} (hx : x < n) (hy : y < n) : For n (es ++ [(x, y)]) ↔ For n es ∧ ¬ Conn es x y := by
  have hl := lab_rounds hr
  obtain ⟨g, hg⟩ : ∃ g, g = mrounds es n := ⟨_, rfl⟩
  rw [← hg] at hl
  by_cases e : g x = g y
  · have h1 := lab_same hl e
    have h2 := lab_ge hr hl
    refine ⟨fun ⟨g2, h3, h4⟩ => ?_, fun ⟨_, h3⟩ => absurd (hl.conn x y hx hy e) h3⟩
    rw [lab_count_eq h3 h1] at h4
    simp only [List.length_append, List.length_cons, List.length_nil] at h4
    omega
  · obtain ⟨h1, h2⟩ := lab_step hl hx hy e
    refine ⟨fun ⟨g2, h3, h4⟩ => ⟨⟨g, hl, ?_⟩, fun hc => e (hl.of hc)⟩, fun ⟨⟨g2, h3, h4⟩, _⟩ => ⟨_, h1, ?_⟩⟩
    · rw [lab_count_eq h3 h1] at h4
      simp only [List.length_append, List.length_cons, List.length_nil] at h4
      omega
    · rw [lab_count_eq h3 hl] at h4
      simp only [List.length_append, List.length_cons, List.length_nil]
      omega
theorem For.cons {n : Nat} {es : List (Nat × Nat)} (hr : InR n es) {e : Nat × Nat} (he : e.1 < n ∧ e.2 < n) : For n (e :: es) ↔ For n es ∧ ¬ Conn es e.1 e.2 := by
  have hp : (e :: es).Perm (es ++ [(e.1, e.2)]) := List.perm_append_comm (l₁ := [e]) (l₂ := es)
  rw [← For.snoc hr he.1 he.2]
  exact ⟨fun h => h.perm hp, fun h => h.perm hp.symm⟩
theorem For.sub {n : Nat} {es es' : List (Nat × Nat)} (hs : es.Sublist es') (hr : InR n es') (h : For n es') : For n es := by
  induction hs with
  | slnil => exact h
  | @cons l1 l2 a hs ih =>
    have hr2 : InR n l2 := fun d hd => hr d (List.mem_cons_of_mem _ hd)
    exact ih hr2 ((For.cons hr2 (hr a (List.mem_cons_self ..))).1 h).1
  | @cons_cons l1 l2 a hs ih =>
    have hr2 : InR n l2 := fun d hd => hr d (List.mem_cons_of_mem _ hd)
    have hr1 : InR n l1 := fun d hd => hr2 d (hs.subset hd)
    have ha := hr a (List.mem_cons_self ..)
    have h1 := (For.cons hr2 ha).1 h
    exact (For.cons hr1 ha).2 ⟨ih hr2 h1.1, fun hc => h1.2 (hc.mono fun d hd => hs.subset hd)⟩
/-- a way that uses one bar more -/
theorem bridge {es es' : List (Nat × Nat)} {p q x y : Nat} (hs : ∀ e ∈ es', e ∈ es ∨ e = (p, q)) (h : Conn es' x y) : Conn es x y ∨ (Conn es x p ∧ Conn es q y) ∨ (Conn es x q ∧ Conn es p y) := by
  induction h with
  | refl v => exact .inl (.refl v)
  | edge h =>
    rcases hs _ h with h | h
    · exact .inl (.edge h)
    · cases h; exact .inr (.inl ⟨.refl _, .refl _⟩)
  | symm _ ih =>
    rcases ih with h | ⟨h1, h2⟩ | ⟨h1, h2⟩
    · exact .inl h.symm
    · exact .inr (.inr ⟨h2.symm, h1.symm⟩)
    · exact .inr (.inl ⟨h2.symm, h1.symm⟩)
  | trans _ _ ih1 ih2 =>
    rcases ih1 with h | ⟨h1, h2⟩ | ⟨h1, h2⟩ <;> rcases ih2 with k | ⟨k1, k2⟩ | ⟨k1, k2⟩
    · exact .inl (h.trans k)
    · exact .inr (.inl ⟨h.trans k1, k2⟩)
    · exact .inr (.inr ⟨h.trans k1, k2⟩)
    · exact .inr (.inl ⟨h1, h2.trans k⟩)
    · exact .inr (.inl ⟨h1, k2⟩)
    · exact .inl (h1.trans k2)
    · exact .inr (.inr ⟨h1, h2.trans k⟩)
    · exact .inl (h1.trans k2)
    · exact .inr (.inr ⟨h1, k2⟩)
section
variable (es : List (Nat × Nat))
def ed (e : Nat) : Nat × Nat := es[e]?.getD (0, 0)
def im (I : List Nat) : List (Nat × Nat) := I.map (ed es)
end
section
variable {es : List (Nat × Nat)}
theorem im_mem {I : List Nat} {x : Nat × Nat} : x ∈ im es I ↔ ∃ e ∈ I, ed es e = x := List.mem_map
theorem ed_mem {e : Nat} (h : e < es.length) : ed es e ∈ es := by unfold ed; rw [List.getElem?_eq_getElem h]; exact List.getElem_mem h
theorem im_rng {n : Nat} (hr : InR n es) {I : List Nat} (hI : ∀ e ∈ I, e < es.length) : InR n (im es I) := fun x hx => by
  obtain ⟨e, he, rfl⟩ := im_mem.1 hx
  exact hr _ (ed_mem (hI e he))
theorem im_mono {I J : List Nat} (h : ∀ e ∈ I, e ∈ J) {x y : Nat} (hc : Conn (im es I) x y) : Conn (im es J) x y := hc.mono fun z hz => by
  obtain ⟨e, he, rfl⟩ := im_mem.1 hz
  exact im_mem.2 ⟨e, h e he, rfl⟩
/-- a bar of a forest is no way's end to end without itself -/
theorem For.out {n : Nat} (hr : InR n es) {I : List Nat} (hI : ∀ e ∈ I, e < es.length) (h : For n (im es I)) {e : Nat} (he : e ∈ I) : For n (im es (I.erase e)) ∧ ¬ Conn (im es (I.erase e)) (ed es e).1 (ed es e).2 := by
  have hp := (List.perm_cons_erase he).map (ed es)
  have h1 : For n (ed es e :: im es (I.erase e)) := For.perm h hp
  have hr2 : InR n (im es (I.erase e)) := im_rng hr fun x hx => hI x (List.mem_of_mem_erase hx)
  exact (For.cons hr2 (hr _ (ed_mem (hI e he)))).1 h1
/-- the bars that every way from x to y needs make a way -/
theorem circuit {n : Nat} (hr : InR n es) {I : List Nat} (hnd : I.Nodup) (hI : ∀ e ∈ I, e < es.length) (h : For n (im es I)) {x y : Nat} : ∀ (m : Nat) (J : List Nat), J.length ≤ m → J.Nodup → (∀ e ∈ J, e ∈ I) → Conn (im es J) x y →
    ∃ D : List Nat, (∀ e ∈ D, e ∈ I ∧ ¬ Conn (im es (I.erase e)) x y) ∧ Conn (im es D) x y
  | 0, J, hm, _, hs, hc => ⟨[], fun e he => by simp at he, by rw [List.length_eq_zero_iff.1 (Nat.le_zero.1 hm)] at hc; exact hc⟩
  | m + 1, J, hm, hJ, hs, hc => by
    by_cases hk : ∃ e ∈ J, Conn (im es (J.erase e)) x y
    · obtain ⟨e, he, hce⟩ := hk
      exact circuit hr hnd hI h m (J.erase e) (by have := List.length_erase_of_mem he; omega) (hJ.erase e) (fun z hz => hs z (List.mem_of_mem_erase hz)) hce
    · refine ⟨J, fun e he => ⟨hs e he, fun hce => ?_⟩, hc⟩
      have hno : ¬ Conn (im es (J.erase e)) x y := fun h9 => hk ⟨e, he, h9⟩
      have hsub : ∀ z ∈ J.erase e, z ∈ I.erase e := fun z hz => by
        rw [hJ.mem_erase_iff] at hz
        rw [hnd.mem_erase_iff]
        exact ⟨hz.1, hs z hz.2⟩
      have hout := (h.out hr hI (hs e he)).2
      rcases bridge (es := im es (J.erase e)) (p := (ed es e).1) (q := (ed es e).2) (fun z hz => by
        obtain ⟨f, hf, rfl⟩ := im_mem.1 hz
        by_cases hfe : f = e
        · subst hfe; exact .inr rfl
        · exact .inl (im_mem.2 ⟨f, (hJ.mem_erase_iff).2 ⟨hfe, hf⟩, rfl⟩)) hc with h9 | ⟨h1, h2⟩ | ⟨h1, h2⟩
      · exact hno h9
      · exact hout (((im_mono hsub h1).symm.trans hce).trans (im_mono hsub h2).symm)
      · exact hout ((im_mono hsub h2).trans (hce.symm.trans (im_mono hsub h1)))
theorem filt_sub {α : Type} (p q : α → Bool) : ∀ l : List α, (∀ z, p z = true → q z = true) → (l.filter p).Sublist (l.filter q)
  | [], _ => List.Sublist.slnil
  | x :: l, h => by
    have ih := filt_sub p q l h
    cases hp : p x
    · rw [List.filter_cons_of_neg (by simp [hp])]
      cases hq : q x
      · rw [List.filter_cons_of_neg (by simp [hq])]; exact ih
      · rw [List.filter_cons_of_pos hq]; exact ih.cons _
    · rw [List.filter_cons_of_pos hp, List.filter_cons_of_pos (h x hp)]; exact ih.cons_cons _
/-- the bars of one colour -/
def col (m : Nat) (c : Nat → Nat) (i : Nat) : List Nat := (List.range m).filter fun e => c e == i
theorem col_mem {m : Nat} {c : Nat → Nat} {i e : Nat} : e ∈ col m c i ↔ e < m ∧ c e = i := by unfold col; rw [List.mem_filter, List.mem_range, beq_iff_eq]
theorem col_nd (m : Nat) (c : Nat → Nat) (i : Nat) : (col m c i).Nodup := List.Pairwise.filter _ List.nodup_range
def Good (n k : Nat) (es : List (Nat × Nat)) (c : Nat → Nat) : Prop := ∀ i, i < k → For n (im es (col es.length c i))
def num (k : Nat) (es : List (Nat × Nat)) (c : Nat → Nat) : Nat := cnt es.length fun e => decide (c e < k)
def upd (c : Nat → Nat) (f i e : Nat) : Nat := if e = f then i else c e
theorem nd_perm {I J : List Nat} (hI : I.Nodup) (hJ : J.Nodup) (h : ∀ e, e ∈ I ↔ e ∈ J) : I.Perm J := (List.perm_ext_iff_of_nodup hI hJ).2 h
/-- a bar without a colour gets one -/
theorem Good.add {n k : Nat} (hr : InR n es) {c : Nat → Nat} (h : Good n k es c) {f i : Nat} (hf : f < es.length) (hcf : ¬ c f < k) (hi : i < k) (hno : ¬ Conn (im es (col es.length c i)) (ed es f).1 (ed es f).2) :
    Good n k es (upd c f i) ∧ num k es (upd c f i) = num k es c + 1 := by
  constructor
  · intro j hj
    by_cases e : j = i
    · subst e
      have h1 : For n (im es (f :: col es.length c j)) := (For.cons (im_rng hr fun e he => (col_mem.1 he).1) (hr _ (ed_mem hf))).2 ⟨h j hj, hno⟩
      refine h1.perm ((nd_perm (List.nodup_cons.2 ⟨fun hm => hcf (by rw [(col_mem.1 hm).2]; exact hj), col_nd ..⟩) (col_nd ..) fun z => ?_).map _)
      rw [List.mem_cons, col_mem, col_mem]
      unfold upd
      by_cases ez : z = f
      · subst ez; simp [hf]
      · simp [ez]
    · refine (h j hj).perm ((nd_perm (col_nd ..) (col_nd ..) fun z => ?_).map _)
      rw [col_mem, col_mem]
      unfold upd
      by_cases ez : z = f
      · subst ez
        rw [if_pos rfl]
        constructor
        · rintro ⟨_, h2⟩; omega
        · rintro ⟨_, h2⟩; omega
      · rw [if_neg ez]
  · have h1 := cnt_drop (p := fun e => decide (upd c f i e < k)) (q := fun e => decide (c e < k)) hf (by simp [upd, hi]) fun z hz => by
      by_cases ez : z = f
      · subst ez; simp [hcf]
      · have : (z == f) = false := by simpa using ez
        simp [upd, ez, this]
    unfold num; omega
/-- a bar without a colour takes the place of another -/
def Step (k : Nat) (es : List (Nat × Nat)) (c c' : Nat → Nat) (f i e : Nat) : Prop := f < es.length ∧ ¬ c f < k ∧ i < k ∧ (e < es.length ∧ c e = i) ∧ ¬ Conn (im es ((col es.length c i).erase e)) (ed es f).1 (ed es f).2 ∧ c' = upd (upd c e k) f i
theorem Step.good {n k : Nat} (hr : InR n es) {c c' : Nat → Nat} {f i e : Nat} (h : Good n k es c) (s : Step k es c c' f i e) : Good n k es c' ∧ num k es c' = num k es c := by
  obtain ⟨hf, hcf, hi, ⟨he, hce⟩, hno, rfl⟩ := s
  have hfe : f ≠ e := fun e9 => by subst e9; omega
  have hcol : ∀ z, z ∈ col es.length (upd c e k) i ↔ z ∈ (col es.length c i).erase e := fun z => by
    rw [(col_nd ..).mem_erase_iff, col_mem, col_mem]
    unfold upd
    by_cases ez : z = e
    · subst ez; simp; omega
    · simp [ez]
  have h1 : Good n k es (upd c e k) := fun j hj => by
    refine For.sub (es' := im es (col es.length c j)) (List.Sublist.map _ ?_) (im_rng hr fun e he => (col_mem.1 he).1) (h j hj)
    refine filt_sub _ _ _ fun z hz => ?_
    rw [beq_iff_eq] at hz ⊢
    unfold upd at hz
    split at hz
    · omega
    · exact hz
  have h2 : num k es (upd c e k) + 1 = num k es c := by
    refine cnt_drop he (by simp [hce, hi]) fun z hz => ?_
    by_cases ez : z = e
    · subst ez; simp [upd]
    · have : (z == e) = false := by simpa using ez
      simp [upd, ez, this]
  have h3 := h1.add hr (f := f) (i := i) hf (by unfold upd; rw [if_neg hfe]; exact hcf) hi fun hc => hno (im_mono (fun z hz => (hcol z).1 hz) hc)
  exact ⟨h3.1, by omega⟩
inductive Reach (k : Nat) (es : List (Nat × Nat)) (c0 : Nat → Nat) : (Nat → Nat) → Prop
  | here : Reach k es c0 c0
  | next {c c' : Nat → Nat} {f i e : Nat} (h : Reach k es c0 c) (s : Step k es c c' f i e) : Reach k es c0 c'
theorem max_ex {n k : Nat} : ∀ (d : Nat) (c : Nat → Nat), Good n k es c → es.length ≤ d + num k es c → ∃ c0, Good n k es c0 ∧ ∀ c', Good n k es c' → num k es c' ≤ num k es c0
  | 0, c, h, hd => ⟨c, h, fun c' _ => by have : num k es c' ≤ es.length := cnt_le _ _; omega⟩
  | d + 1, c, h, hd => by
    by_cases hc : ∃ c', Good n k es c' ∧ num k es c < num k es c'
    · obtain ⟨c', h1, h2⟩ := hc
      exact max_ex d c' h1 (by omega)
    · exact ⟨c, h, fun c' h' => Nat.le_of_not_lt fun hlt => hc ⟨c', h', hlt⟩⟩
/-- bars that lose their colour somewhere -/
def Free (k : Nat) (es : List (Nat × Nat)) (c0 : Nat → Nat) (e : Nat) : Prop := ∃ c, Reach k es c0 c ∧ ¬ c e < k
open Classical in
noncomputable def frL (k : Nat) (es : List (Nat × Nat)) (c0 : Nat → Nat) (I : List Nat) : List Nat := I.filter fun e => decide (Free k es c0 e)
theorem frL_mem {k : Nat} {c0 : Nat → Nat} {I : List Nat} {e : Nat} : e ∈ frL k es c0 I ↔ e ∈ I ∧ Free k es c0 e := by unfold frL; simp only [List.mem_filter, decide_eq_true_iff]
theorem Reach.ok {n k : Nat} (hr : InR n es) {c0 c : Nat → Nat} (hg : Good n k es c0) (h : Reach k es c0 c) : Good n k es c ∧ num k es c = num k es c0 := by
  induction h with
  | here => exact ⟨hg, rfl⟩
  | next _ s ih => have := s.good hr ih.1; exact ⟨this.1, by omega⟩
/-- a bar without a colour has its ends joined in each colour by such bars -/
theorem Reach.way {n k : Nat} (hr : InR n es) {c0 c : Nat → Nat} (hg : Good n k es c0) (hmx : ∀ c', Good n k es c' → num k es c' ≤ num k es c0) (h : Reach k es c0 c) {f i : Nat} (hf : f < es.length) (hcf : ¬ c f < k) (hi : i < k) :
    Conn (im es (frL k es c0 (col es.length c i))) (ed es f).1 (ed es f).2 := by
  obtain ⟨h1, h2⟩ := h.ok hr hg
  have h3 : Conn (im es (col es.length c i)) (ed es f).1 (ed es f).2 := Classical.byContradiction fun hno => by
    have h4 := h1.add hr hf hcf hi hno
    have := hmx _ h4.1
    omega
  obtain ⟨D, hD, hc⟩ := circuit hr (col_nd es.length c i) (fun e he => (col_mem.1 he).1) (h1 i hi) _ _ (Nat.le_refl _) (col_nd es.length c i) (fun e he => he) h3
  refine im_mono (fun e he => frL_mem.2 ⟨(hD e he).1, _, h.next ⟨hf, hcf, hi, col_mem.1 (hD e he).1, (hD e he).2, rfl⟩, ?_⟩) hc
  unfold upd
  have hef : e ≠ f := fun e9 => hcf (by rw [← e9, (col_mem.1 (hD e he).1).2]; exact hi)
  rw [if_neg hef, if_pos rfl]
  omega
theorem Reach.pull {n k : Nat} (hr : InR n es) {c0 c : Nat → Nat} (hg : Good n k es c0) (hmx : ∀ c', Good n k es c' → num k es c' ≤ num k es c0) (h : Reach k es c0 c) {i : Nat} (hi : i < k) : ∀ {x y : Nat}, Conn (im es (frL k es c0 (col es.length c i))) x y → Conn (im es (frL k es c0 (col es.length c0 i))) x y := by
  induction h with
  | here => exact fun hc => hc
  | @next c c' f j e h s ih =>
    intro x y hc
    refine ih ?_
    obtain ⟨hf, hcf, hj, ⟨he, hce⟩, hno, rfl⟩ := s
    induction hc with
    | refl v => exact .refl v
    | symm _ ih => exact ih.symm
    | trans _ _ ih1 ih2 => exact ih1.trans ih2
    | @edge a b hab =>
      obtain ⟨g, hgm, hge⟩ := im_mem.1 hab
      obtain ⟨h5, h6⟩ := frL_mem.1 hgm
      obtain ⟨h7, h8⟩ := col_mem.1 h5
      unfold upd at h8
      by_cases e1 : g = f
      · subst e1
        rw [if_pos rfl] at h8
        subst h8
        have := h.way hr hg hmx hf hcf hi
        rw [hge] at this
        exact this
      · rw [if_neg e1] at h8
        by_cases e2 : g = e
        · rw [if_pos e2] at h8; omega
        · rw [if_neg e2] at h8
          exact .edge (im_mem.2 ⟨g, frL_mem.2 ⟨col_mem.2 ⟨h7, h8⟩, h6⟩, hge⟩)
/-- bars that join all points of a set -/
theorem join_cnt {n : Nat} {L : List (Nat × Nat)} (hr : InR n L) {U : Nat → Bool} {a : Nat} (ha : a < n) (hU : ∀ v, v < n → U v = true → Conn L a v) : cnt n U ≤ L.length + 1 := by
  have hl := lab_rounds hr
  have h1 := lab_ge hr hl
  generalize mrounds L n = g at *
  have h2 : fixN n g ≤ cnt n fun i => !U i || (i == g a) := by
    unfold fixN
    refine cnt_inj id (fun i hi hp => ⟨hi, ?_⟩) fun i j _ _ _ _ e => e
    have hp : g i = i := by simpa using hp
    by_cases hu : U i = true
    rotate_left
    · simp [hu]
    · have := hl.of (hU i hi hu)
      simp; omega
  have h3 : (cnt n fun i => !U i || (i == g a)) ≤ (cnt n fun i => !U i) + 1 := by
    by_cases hu : U (g a) = true
    · have := cnt_drop (p := fun i => !U i || (i == g a)) (q := fun i => !U i) (hl.lt a ha) (by simp) fun i hi => by
        by_cases ei : i = g a
        · subst ei; simp [hu]
        · have : (i == g a) = false := by simpa using ei
          simp [this]
      omega
    · have : (cnt n fun i => !U i || (i == g a)) = cnt n fun i => !U i := cnt_congr fun i hi => by
        by_cases ei : i = g a
        · subst ei; simp [hu]
        · have : (i == g a) = false := by simpa using ei
          simp [this]
      omega
  have h4 : cnt n U + (cnt n fun i => !U i) = n := by
    clear h1 h2 h3 hl hU
    induction n with
    | zero => rfl
    | succ n ih =>
      rw [cnt_succ, cnt_succ]
      have : cnt n U + (cnt n fun i => !U i) = n := by
        clear ih ha hr
        induction n with
        | zero => rfl
        | succ n ih => rw [cnt_succ, cnt_succ]; cases U n <;> simp <;> omega
      cases U n <;> simp <;> omega
  omega
def inE (U : Nat → Bool) (x : Nat × Nat) : Bool := U x.1 && U x.2
theorem cnt_cols {m : Nat} {c : Nat → Nat} (p : Nat → Bool) (b : Nat) : ∀ k, (∀ i, i < k → b ≤ cnt m fun e => p e && (c e == i)) → k * b ≤ cnt m fun e => p e && decide (c e < k)
  | 0, _ => by simp
  | k + 1, h => by
    have ih := cnt_cols (m := m) (c := c) p b k fun i hi => h i (by omega)
    have hk := h k (by omega)
    have key : (cnt m fun e => p e && decide (c e < k + 1)) = (cnt m fun e => p e && decide (c e < k)) + cnt m fun e => p e && (c e == k) := by
      clear ih hk h
      induction m with
      | zero => rfl
      | succ m ih =>
        rw [cnt_succ, cnt_succ, cnt_succ, ih]
        by_cases e1 : c m = k
        · cases p m <;> simp [e1] <;> omega
        · by_cases e2 : c m < k
          · cases p m <;> simp [e1, e2, show c m < k + 1 by omega] <;> omega
          · cases p m <;> simp [e1, e2, show ¬ c m < k + 1 by omega]
    rw [key, Nat.add_mul]
    omega
open Classical in
/-- Nash-Williams: a sparse set of bars falls into k forests -/
theorem nash {n k : Nat} (hr : InR n es) (hsp : ∀ U : Nat → Bool, 0 < (cnt es.length fun e => inE U (ed es e)) → (cnt es.length fun e => inE U (ed es e)) + k ≤ k * cnt n U) :
    ∃ c : Nat → Nat, (∀ e, e < es.length → c e < k) ∧ ∀ i, i < k → For n (im es (col es.length c i)) := by
  have hg0 : Good n k es fun _ => k := fun i hi => by
    have : col es.length (fun _ => k) i = [] := List.eq_nil_iff_forall_not_mem.2 fun e he => by have := (col_mem.1 he).2; omega
    rw [this]; exact For.nil n
  obtain ⟨c0, hg, hmx⟩ := max_ex es.length _ hg0 (by omega)
  refine ⟨c0, fun e he => Classical.byContradiction fun hce => ?_, hg⟩
  have hfree : ∀ f, f < es.length → Free k es c0 f → ∀ i, i < k → Conn (im es (frL k es c0 (col es.length c0 i))) (ed es f).1 (ed es f).2 := fun f hf ⟨c, hc, hcf⟩ i hi => hc.pull hr hg hmx hi (hc.way hr hg hmx hf hcf hi)
  have hall : ∀ i, i < k → ∀ {x y : Nat}, Conn (im es (frL k es c0 (List.range es.length))) x y → Conn (im es (frL k es c0 (col es.length c0 i))) x y := fun i hi {x y} hc => by
    induction hc with
    | refl v => exact .refl v
    | symm _ ih => exact ih.symm
    | trans _ _ ih1 ih2 => exact ih1.trans ih2
    | @edge a b hab =>
      obtain ⟨g, hgm, hge⟩ := im_mem.1 hab
      obtain ⟨h5, h6⟩ := frL_mem.1 hgm
      have := hfree g (List.mem_range.1 h5) h6 i hi
      rw [hge] at this
      exact this
  have hae := hr _ (ed_mem he)
  have hfe : Free k es c0 e := ⟨c0, .here, hce⟩
  obtain ⟨U, hU⟩ : ∃ U : Nat → Bool, ∀ v, U v = true ↔ Conn (im es (frL k es c0 (List.range es.length))) (ed es e).1 v := ⟨fun v => decide (Conn (im es (frL k es c0 (List.range es.length))) (ed es e).1 v), fun v => decide_eq_true_iff⟩
  have hine : inE U (ed es e) = true := by
    unfold inE
    rw [Bool.and_eq_true, hU, hU]
    exact ⟨.refl _, .edge (im_mem.2 ⟨e, frL_mem.2 ⟨List.mem_range.2 he, hfe⟩, rfl⟩)⟩
  have hcol : ∀ i, i < k → cnt n U - 1 ≤ cnt es.length fun e => inE U (ed es e) && (c0 e == i) := fun i hi => by
    have hL : cnt n U ≤ (im es ((frL k es c0 (col es.length c0 i)).filter fun e => inE U (ed es e))).length + 1 := by
      refine join_cnt (a := (ed es e).1) (im_rng hr fun z hz => (col_mem.1 (frL_mem.1 (List.mem_filter.1 hz).1).1).1) hae.1 fun v hv hu => ?_
      have h1 := hall i hi ((hU v).1 hu)
      -- the way stays among the points of U
      have key : ∀ {x y : Nat}, Conn (im es (frL k es c0 (col es.length c0 i))) x y → (U x = true ↔ U y = true) ∧ (U x = true → Conn (im es ((frL k es c0 (col es.length c0 i)).filter fun e => inE U (ed es e))) x y) := fun {x y} hc => by
        induction hc with
        | refl v => exact ⟨Iff.rfl, fun _ => .refl v⟩
        | symm _ ih => exact ⟨ih.1.symm, fun h => (ih.2 (ih.1.2 h)).symm⟩
        | trans _ _ ih1 ih2 => exact ⟨ih1.1.trans ih2.1, fun h => (ih1.2 h).trans (ih2.2 (ih1.1.1 h))⟩
        | @edge a b hab =>
          obtain ⟨g, hgm, hge⟩ := im_mem.1 hab
          obtain ⟨h5, h6⟩ := frL_mem.1 hgm
          have hgc : Conn (im es (frL k es c0 (List.range es.length))) a b := .edge (im_mem.2 ⟨g, frL_mem.2 ⟨List.mem_range.2 (col_mem.1 h5).1, h6⟩, hge⟩)
          have hiff : U a = true ↔ U b = true := by rw [hU, hU]; exact ⟨fun h => h.trans hgc, fun h => h.trans hgc.symm⟩
          refine ⟨hiff, fun h => .edge (im_mem.2 ⟨g, List.mem_filter.2 ⟨hgm, ?_⟩, hge⟩)⟩
          rw [hge]
          unfold inE
          rw [h, hiff.1 h]; rfl
      exact (key h1).2 ((hU _).2 (.refl _))
    have hle : (im es ((frL k es c0 (col es.length c0 i)).filter fun e => inE U (ed es e))).length ≤ cnt es.length fun e => inE U (ed es e) && (c0 e == i) := by
      unfold im cnt
      rw [List.length_map]
      refine List.Sublist.length_le ?_
      unfold frL col
      rw [List.filter_filter, List.filter_filter]
      refine filt_sub _ _ _ fun z hz => ?_
      simp only [Bool.and_eq_true] at hz ⊢
      exact ⟨hz.1.1, hz.2⟩
    omega
  have h1 := cnt_cols (fun e => inE U (ed es e)) (cnt n U - 1) k hcol
  have h2 : (cnt es.length fun e => inE U (ed es e) && decide (c0 e < k)) + 1 ≤ cnt es.length fun e => inE U (ed es e) := cnt_lt (fun i _ h => by
    simp only [Bool.and_eq_true] at h; exact h.1) he (by simp [hce]) hine
  have h3 := hsp U (by omega)
  rw [Nat.mul_sub, Nat.mul_one] at h1
  omega
end
end Fo

namespace Go.Proofs.YtfbmpkdjhhcnpaaGreat
open Go.RowKit
set_option maxRecDepth 100000
set_option linter.unusedVariables false
set_option linter.unusedSimpArgs false
/-- the number of a set of points -/
def maskOf (U : Nat → Bool) : Nat → Nat
  | 0 => 0
  | v + 1 => maskOf U v + (if U v = true then 2 ^ v else 0)
theorem maskOf_lt (U : Nat → Bool) : ∀ p, maskOf U p < 2 ^ p
  | 0 => by show 0 < 1; omega
  | v + 1 => by
    have := maskOf_lt U v
    unfold maskOf
    rw [Nat.pow_succ]
    split <;> omega
theorem bit_add {M v p b : Nat} (h : v < p) : (M + b * 2 ^ p) / 2 ^ v % 2 = M / 2 ^ v % 2 := by
  obtain ⟨d, rfl⟩ : ∃ d, p = v + (d + 1) := ⟨p - v - 1, by omega⟩
  have e : M + b * 2 ^ (v + (d + 1)) = M + 2 ^ v * (2 * (b * 2 ^ d)) := by rw [Nat.pow_add, Nat.pow_succ]; grind
  rw [e, Nat.add_mul_div_left _ _ (Nat.two_pow_pos v)]
  omega
theorem bit_mask (U : Nat → Bool) : ∀ p v, v < p → bitB (maskOf U p) v = U v
  | 0, v, h => by omega
  | p + 1, v, h => by
    unfold maskOf bitB
    by_cases e : v = p
    · subst e
      have h1 := maskOf_lt U v
      cases hu : U v
      · rw [if_neg (by simp), Nat.add_zero, Nat.div_eq_of_lt h1]; rfl
      · rw [if_pos rfl, Nat.add_div_right _ (Nat.two_pow_pos v), Nat.div_eq_of_lt h1]; rfl
    · have ih := bit_mask U p v (by omega)
      unfold bitB at ih
      cases hu : U p
      · rw [if_neg (by simp), Nat.add_zero]; exact ih
      · rw [if_pos rfl]
        have := bit_add (M := maskOf U p) (b := 1) (show v < p by omega)
        rw [Nat.one_mul] at this
        rw [this]; exact ih
theorem sizeM_cnt (m : Nat) : ∀ p, sizeM m p = Fo.cnt p (bitB m)
  | 0 => rfl
  | p + 1 => by rw [sizeM_succ, Fo.cnt_succ, sizeM_cnt m p]
/-- the bars with both ends in a set -/
def spU (l : List BarT) (U : Nat → Bool) : Nat := l.countP fun x => U x.1.toNat && U x.2.toNat
theorem spanM_sp {P : Nat} {l : List BarT} (hr : ∀ x ∈ l, (0 ≤ x.1 ∧ x.1 < P) ∧ (0 ≤ x.2 ∧ x.2 < P)) {m : Nat} {U : Nat → Bool} (h : ∀ v, v < P → bitB m v = U v) : spanM l m l.length = spU l U := by
  unfold spanM spU
  rw [List.take_length, ← List.countP_eq_length_filter]
  refine List.countP_congr fun x hx => ?_
  have := hr x hx
  unfold bothB
  rw [h _ (by omega), h _ (by omega)]
/-- sparse: each set of points spans few bars -/
theorem over_iff {P : Nat} {l : List BarT} {k r : Int} (hr : ∀ x ∈ l, (0 ≤ x.1 ∧ x.1 < P) ∧ (0 ≤ x.2 ∧ x.2 < P)) : overB P l k r = false ↔ ∀ U : Nat → Bool, 0 < spU l U → (spU l U : Int) + r ≤ k * Fo.cnt P U := by
  constructor
  · intro h U hU
    have h1 : overAt P l k r (maskOf U P) = false := Bool.eq_false_iff.2 fun hc => by
      rw [overB_yes (maskOf_lt U P) hc] at h; exact Bool.noConfusion h
    unfold overAt at h1
    rw [spanM_sp hr (U := U) (bit_mask U P), sizeM_cnt, Fo.cnt_congr (fun v hv => bit_mask U P v hv), decide_eq_true hU, Bool.true_and, decide_eq_false_iff_not] at h1
    omega
  · intro h
    refine overB_no fun m hm => ?_
    unfold overAt
    rw [spanM_sp hr (U := bitB m) (fun v _ => rfl), sizeM_cnt, Bool.and_eq_false_iff, decide_eq_false_iff_not, decide_eq_false_iff_not]
    by_cases h0 : 0 < spU l (bitB m)
    · right; have := h _ h0; omega
    · exact .inl h0
theorem cnt_idx {α : Type} (p : α → Bool) (d : α) (l : List α) : (Fo.cnt l.length fun e => p (l[e]?.getD d)) = l.countP p := by
  unfold Fo.cnt
  rw [← List.countP_eq_length_filter]
  induction l with
  | nil => rfl
  | cons a l ih =>
    rw [List.length_cons, List.range_succ_eq_map, List.countP_cons, List.countP_map, List.countP_cons, ← ih]
    rfl
/-- the bars as edges -/
def edL (l : List BarT) : List (Nat × Nat) := l.map eN
theorem edL_rng {P : Nat} {l : List BarT} (hr : ∀ x ∈ l, (0 ≤ x.1 ∧ x.1 < P) ∧ (0 ≤ x.2 ∧ x.2 < P)) : Fo.InR P (edL l) := fun e he => by
  obtain ⟨x, hx, rfl⟩ := List.mem_map.1 he
  have := hr x hx
  unfold eN
  dsimp only
  omega
theorem ed_edL {l : List BarT} {e : Nat} (he : e < l.length) : Fo.ed (edL l) e = eN (l[e]?.getD (0, 0)) := by
  unfold Fo.ed edL
  rw [List.getElem?_map, List.getElem?_eq_getElem he]; rfl
theorem spU_cnt (l : List BarT) (U : Nat → Bool) : (Fo.cnt (edL l).length fun e => Fo.inE U (Fo.ed (edL l) e)) = spU l U := by
  unfold Fo.ed
  rw [cnt_idx (fun x => Fo.inE U x) (0, 0)]
  unfold edL spU
  rw [List.countP_map]
  rfl
def intL (I : List Nat) : List Int := List.map (fun e : Nat => (e : Int)) I
theorem setE_im {l : List BarT} {I : List Nat} (h : ∀ e ∈ I, e < l.length) : setE l (intL I) = Fo.im (edL l) I := by
  unfold setE intL Fo.im
  rw [List.map_map]
  refine List.map_congr_left fun e he => ?_
  rw [ed_edL (h e he)]
  show eN (l[((e : Nat) : Int).toNat]?.getD (0, 0)) = _
  rw [Int.toNat_natCast]
/-- the sets that a colouring makes of the first bars -/
def colS (c : Nat → Nat) (k e : Nat) : SetsT := (List.range k).map fun t => intL (Fo.col e c t)
theorem colS_len (c : Nat → Nat) (k e : Nat) : (colS c k e).length = k := by unfold colS; simp
theorem colS_get {c : Nat → Nat} {k e t : Nat} (h : t < k) : setA (colS c k e) t = intL (Fo.col e c t) := by
  unfold setA colS
  rw [List.getElem?_map, List.getElem?_range h]; rfl
theorem col_succ (c : Nat → Nat) (e t : Nat) : Fo.col (e + 1) c t = if c e = t then Fo.col e c t ++ [e] else Fo.col e c t := by
  unfold Fo.col
  rw [List.range_succ, List.filter_append]
  by_cases h : c e = t
  · rw [if_pos h, List.filter_cons_of_pos (by simpa using h)]; rfl
  · rw [if_neg h, List.filter_cons_of_neg (by simpa using h)]; simp
theorem colS_succ {c : Nat → Nat} {k e : Nat} (h : c e < k) : (colS c k e).set (c e) (setA (colS c k e) (c e) ++ [(e : Int)]) = colS c k (e + 1) := by
  refine List.ext_getElem? fun t => ?_
  by_cases ht : t < k
  · rw [setA_get (S := (colS c k e).set _ _) (by rw [List.length_set, colS_len]; exact ht), setA_get (by rw [colS_len]; exact ht), setA_set (by rw [colS_len]; exact h), colS_get ht, colS_get h, colS_get ht, col_succ]
    by_cases e1 : t = c e
    · subst e1
      rw [if_pos rfl, if_pos rfl]
      unfold intL
      rw [List.map_append]; rfl
    · rw [if_neg e1, if_neg (Ne.symm e1)]
  · rw [List.getElem?_eq_none (by rw [List.length_set, colS_len]; omega), List.getElem?_eq_none (by rw [colS_len]; omega)]
theorem colS_zero (c : Nat → Nat) (k : Nat) : colS c k 0 = List.replicate k [] := by
  refine List.eq_replicate_iff.2 ⟨colS_len .., fun b hb => ?_⟩
  obtain ⟨t, _, rfl⟩ := List.mem_map.1 hb
  rfl
/-- the search finds one where there is one -/
theorem fill_all {F : List Int → Bool} {k m : Nat} {c : Nat → Nat} (hc : ∀ e, e < m → c e < k) (hF : ∀ e, e < m → F (intL (Fo.col (e + 1) c (c e))) = true) : ∀ d e, e + d = m → fillS F k d e (colS c k e) ≠ none
  | 0, e, _ => by simp [fillS]
  | d + 1, e, h => fun hn => by
    rw [fillS_succ] at hn
    have h1 := firstS_all k hn (c e) (hc e (by omega))
    unfold tryS at h1
    have h2 : setA (colS c k e) (c e) ++ [(e : Int)] = intL (Fo.col (e + 1) c (c e)) := by
      rw [colS_get (hc e (by omega)), col_succ, if_pos rfl]
      unfold intL
      rw [List.map_append]; rfl
    rw [if_pos (by rw [h2]; exact hF e (by omega)), colS_succ (hc e (by omega))] at h1
    exact fill_all hc hF d (e + 1) (by omega) h1
theorem col_sub {c : Nat → Nat} {e m t : Nat} (h : e ≤ m) : (Fo.col e c t).Sublist (Fo.col m c t) := by
  obtain ⟨d, rfl⟩ : ∃ d, m = e + d := ⟨m - e, by omega⟩
  unfold Fo.col
  rw [List.range_add, List.filter_append]
  exact List.sublist_append_left _ _
/-- a tight graph falls into trees -/
theorem pack_some {P : Nat} {l : List BarT} {k : Nat} (hr : ∀ x ∈ l, (0 ≤ x.1 ∧ x.1 < P) ∧ (0 ≤ x.2 ∧ x.2 < P)) (ho : overB P l k k = false) : fillS (forF l) k l.length 0 (List.replicate k []) ≠ none := by
  have hR := edL_rng hr
  have hll : (edL l).length = l.length := by unfold edL; rw [List.length_map]
  obtain ⟨c, hc, hf⟩ := Fo.nash (n := P) (k := k) hR fun U hU => by
    rw [spU_cnt] at hU ⊢
    have := (over_iff hr).1 ho U hU
    have e : ((k * Fo.cnt P U : Nat) : Int) = (k : Int) * (Fo.cnt P U : Nat) := Int.natCast_mul _ _
    omega
  rw [hll] at hc hf
  rw [← colS_zero c]
  refine fill_all hc (fun e he => ?_) l.length 0 (by omega)
  have hlt : ∀ z ∈ Fo.col (e + 1) c (c e), z < l.length := fun z hz => by have := (Fo.col_mem.1 hz).1; omega
  unfold forF
  rw [setE_im hlt, Fo.For.iff (Fo.im_rng hR (by rw [hll]; exact hlt))]
  exact Fo.For.sub ((col_sub (by omega)).map _) (Fo.im_rng hR fun z hz => by rw [hll]; exact (Fo.col_mem.1 hz).1) (hf (c e) (hc e he))
theorem sparseB_gr {g : GraphT} {k r : Int} (h : sparseB g k r = true) : isGraphB g = true := by
  unfold sparseB at h
  simp only [Bool.and_eq_true] at h
  exact h.1.1
theorem packOk_tight {g : GraphT} {k : Int} (hk : inB k 1 3 = true) (ht : tightB g k k = true) (h5 : g.1 ≤ 5) : packOk g k = true := by
  obtain ⟨p, l⟩ := g
  have h1 : sparseB (p, l) k k = true := by unfold tightB at ht; simp only [Bool.and_eq_true] at ht; exact ht.1
  have hg := sparseB_gr h1
  have hp := (isGraphB_bd hg).1
  obtain ⟨P, rfl⟩ : ∃ P : Nat, p = P := ⟨p.toNat, by omega⟩
  simp only [inB, Bool.and_eq_true, decide_eq_true_eq] at hk
  obtain ⟨K, rfl⟩ : ∃ K : Nat, k = K := ⟨k.toNat, by omega⟩
  have ho : overB P l K K = false := by
    unfold sparseB at h1
    simp only [Bool.and_eq_true, Bool.not_eq_true'] at h1
    have h2 := h1.2
    rw [Int.toNat_natCast] at h2
    exact h2
  unfold packOk packO
  rw [if_pos (by simp only [inB, Bool.and_eq_true, decide_eq_true_eq]; exact ⟨hk, ht, h5⟩)]
  have := pack_some (isGraphB_ends hg) ho
  rw [Int.toNat_natCast]
  exact Option.isSome_iff_ne_none.2 this
/-- the sets that the search has made: all forests, each bar in one -/
structure SetsF (F : List Int → Bool) (k e : Nat) (S : SetsT) : Prop where
  ok : SetsOk k e S
  fo : ∀ t, setA S t = [] ∨ F (setA S t) = true
  nd : S.flatten.Nodup
  ln : S.flatten.length = e
theorem flat_setS : ∀ (S : SetsT) (i : Nat) (x : Int), i < S.length → (S.set i (setA S i ++ [x])).flatten.Perm (x :: S.flatten)
  | [], i, x, h => by simp at h
  | s :: S, 0, x, h => by
    show ((setA (s :: S) 0 ++ [x]) ++ S.flatten).Perm (x :: (s ++ S.flatten))
    have : setA (s :: S) 0 = s := rfl
    rw [this, List.append_assoc]
    exact List.perm_middle
  | s :: S, i + 1, x, h => by
    have ih := flat_setS S i x (by simpa using h)
    show (s ++ (S.set i (setA (s :: S) (i + 1) ++ [x])).flatten).Perm (x :: (s ++ S.flatten))
    have : setA (s :: S) (i + 1) = setA S i := by unfold setA; rfl
    rw [this]
    exact (ih.append_left s).trans List.perm_middle
theorem flat_rng {k e : Nat} {S : SetsT} (h : SetsOk k e S) : ∀ x ∈ S.flatten, 0 ≤ x ∧ x < (e : Int) := fun x hx => by
  obtain ⟨s, hs, hxs⟩ := List.mem_flatten.1 hx
  obtain ⟨t, ht⟩ := List.getElem?_of_mem hs
  have := h.rng t x (by unfold setA; rw [ht]; exact hxs)
  exact this
theorem SetsF.add {F : List Int → Bool} {k e i : Nat} {S : SetsT} (h : SetsF F k e S) (hi : i < k) (hF : F (setA S i ++ [(e : Int)]) = true) : SetsF F k (e + 1) (S.set i (setA S i ++ [(e : Int)])) where
  ok := h.ok.add hi
  fo := fun t => by
    rw [setA_set (by rw [h.ok.len]; exact hi)]
    split
    · exact .inr hF
    · exact h.fo t
  nd := by
    rw [(flat_setS S i (e : Int) (by rw [h.ok.len]; exact hi)).nodup_iff, List.nodup_cons]
    exact ⟨fun hc => by have := flat_rng h.ok _ hc; omega, h.nd⟩
  ln := by rw [(flat_setS S i (e : Int) (by rw [h.ok.len]; exact hi)).length_eq, List.length_cons, h.ln]
theorem flat_rep : ∀ k : Nat, (List.replicate k ([] : List Int)).flatten = []
  | 0 => rfl
  | k + 1 => by rw [List.replicate_succ, List.flatten_cons, flat_rep k]; rfl
theorem SetsF.none (F : List Int → Bool) (k : Nat) : SetsF F k 0 (List.replicate k []) where
  ok := SetsOk.none k
  fo := fun t => .inl (by unfold setA; rw [List.getElem?_replicate]; split <;> rfl)
  nd := by rw [flat_rep]; exact List.nodup_nil
  ln := by rw [flat_rep]; rfl
theorem fill_F {F : List Int → Bool} {k : Nat} : ∀ (d e : Nat) (S S' : SetsT), SetsF F k e S → fillS F k d e S = some S' → SetsF F k (d + e) S'
  | 0, e, S, S', h, hf => by
    simp only [fillS, Option.some.injEq] at hf
    subst hf
    rw [Nat.zero_add]; exact h
  | d + 1, e, S, S', h, hf => by
    rw [fillS_succ] at hf
    obtain ⟨i, hi, h1⟩ := firstS_some _ hf
    unfold tryS at h1
    split at h1
    · rename_i hF
      have := fill_F d (e + 1) _ _ (h.add hi hF) h1
      rw [show d + (e + 1) = d + 1 + e by omega] at this
      exact this
    · exact absurd h1 (by simp)
theorem sum_eq {b : Nat} : ∀ L : List (List Int), (∀ s ∈ L, s.length ≤ b) → L.flatten.length ≤ b * L.length ∧ (L.flatten.length = b * L.length → ∀ s ∈ L, s.length = b)
  | [], _ => ⟨by simp, fun _ s hs => by simp at hs⟩
  | s :: L, h => by
    obtain ⟨h1, h2⟩ := sum_eq L fun s hs => h s (List.mem_cons_of_mem _ hs)
    have h3 := h s (List.mem_cons_self ..)
    rw [List.flatten_cons, List.length_append, List.length_cons, Nat.mul_succ]
    refine ⟨by omega, fun he t ht => ?_⟩
    rcases List.mem_cons.1 ht with rfl | ht
    · omega
    · exact h2 (by omega) t ht
theorem for_len {n : Nat} (hn : 0 < n) {es : List (Nat × Nat)} (h : Fo.For n es) : es.length + 1 ≤ n := by
  obtain ⟨g, hg, h1⟩ := h
  have : (Fo.cnt n fun _ => false) + 1 ≤ Fo.fixN n g := Fo.cnt_lt (b := g 0) (fun i _ e => absurd e (by decide)) (hg.lt 0 hn) rfl (by simpa using hg.idem 0 hn)
  omega
/-- what is packed are spanning trees that hold each bar once -/
theorem packL_pack {g : GraphT} {k : Int} (h : packOk g k = true) : packB 3 g k (packL g k) = true := by
  obtain ⟨p, l⟩ := g
  unfold packOk at h
  obtain ⟨S, hS⟩ := Option.isSome_iff_exists.1 h
  have hL : packL (p, l) k = S := by unfold packL; rw [hS]; rfl
  rw [hL]
  unfold packO at hS
  split at hS
  rotate_left
  · exact absurd hS (by simp)
  rename_i hc
  simp only [Bool.and_eq_true] at hc
  obtain ⟨hk, ht, h5⟩ := hc
  have hk2 := hk
  simp only [inB, Bool.and_eq_true, decide_eq_true_eq] at hk2
  obtain ⟨K, rfl⟩ : ∃ K : Nat, k = K := ⟨k.toNat, by omega⟩
  rw [Int.toNat_natCast] at hS
  have h1 : sparseB (p, l) K K = true ∧ ((l.length : Int) == max 0 ((K : Int) * p - K)) = true := by unfold tightB at ht; simp only [Bool.and_eq_true] at ht; exact ht
  have hg := sparseB_gr h1.1
  have hp := (isGraphB_bd hg).1
  obtain ⟨P, rfl⟩ : ∃ P : Nat, p = P := ⟨p.toNat, by omega⟩
  have hF := fill_F l.length 0 _ _ (SetsF.none (forF l) K) hS
  rw [Nat.add_zero] at hF
  have hR := edL_rng (isGraphB_ends hg)
  have hlen : l.length = (P - 1) * K := by
    have h2 := h1.2
    rw [beq_iff_eq] at h2
    obtain ⟨Q, rfl⟩ : ∃ Q, P = Q + 1 := ⟨P - 1, by omega⟩
    have e : ((Q * K : Nat) : Int) = (Q : Int) * K := Int.natCast_mul _ _
    have e2 : (K : Int) * ((Q + 1 : Nat) : Int) - K = (Q : Int) * K := by rw [Int.natCast_add]; grind
    rw [e2] at h2
    rw [Nat.add_sub_cancel]
    omega
  have hset : ∀ s ∈ S, setB ((P : Int), l) s = true ∧ Fo.forestB (setE l s) = true ∧ s.length ≤ P - 1 := fun s hs => by
    obtain ⟨t, ht⟩ := List.getElem?_of_mem hs
    have hst : setA S t = s := by unfold setA; rw [ht]; rfl
    have a1 := hF.ok.asc t
    have a2 := hF.ok.rng t
    have a3 := hF.fo t
    rw [hst] at a1 a2 a3
    have b1 := setB_mk hg a1 a2
    have b2 : Fo.forestB (setE l s) = true := by
      rcases a3 with rfl | a3
      · rfl
      · exact a3
    refine ⟨b1, b2, ?_⟩
    have b3 := for_len (n := P) (by omega) ((Fo.For.iff (setE_inR b1)).1 b2)
    have b4 : (setE l s).length = s.length := by unfold setE; rw [List.length_map]
    omega
  obtain ⟨-, c2⟩ := sum_eq S fun s hs => (hset s hs).2.2
  have c3 := c2 (by rw [hF.ln, hF.ok.len]; exact hlen)
  have hall : S.all (sptB ((P : Int), l)) = true := by
    rw [List.all_eq_true]
    intro s hs
    obtain ⟨d1, d2, -⟩ := hset s hs
    have d3 := c3 s hs
    unfold sptB frstB
    rw [d1, d2, Bool.and_self, Bool.true_and, beq_iff_eq]
    dsimp only
    omega
  rw [pack_end hall hF.nd, hg, hk, Bool.and_self, Bool.true_and, Bool.and_eq_true, beq_iff_eq, beq_iff_eq]
  exact ⟨by rw [hF.ok.len], by rw [hF.ln]⟩
end Go.Proofs.YtfbmpkdjhhcnpaaGreat

namespace Go.Proofs.YtfbmpkdjhhcnpaaGreat
open Go.RowKit
set_option maxRecDepth 100000
set_option linter.unusedVariables false
set_option linter.unusedSimpArgs false
def cutA (b c : Nat) : Option Addr := if c = 1 then some ⟨b, 0, none⟩ else some ⟨b, 1, none⟩
theorem cutHead {b n c : Nat} (h1 : 1 ≤ n) (hc : n ≤ c) (hm : c ≤ 9223372036854775807) (w : World) : (Instr.slice 35 (.slice (some ⟨b, 0, none⟩) n c) (some (.int .i64 1)) none none).run Tryz.prog w = .ok (.slice (cutA b c) (n - 1) (c - 1)) w := by
  unfold cutA
  by_cases h : c = 1
  · subst h
    obtain rfl : n = 1 := by omega
    rw [if_pos rfl]
    go_simp
  · rw [if_neg h]
    go_simp
    omega
/-- a matrix that is read, all its blocks from lo on -/
def FrIntss (W : World) (lo : Nat) (a : Option Addr) (n : Nat) (ll : List (List Int)) : Prop :=
  ll.length = n ∧ ∀ k, k < n → ∃ b off ar cr r, a = some ⟨b, off, none⟩ ∧ b < W.heap.size ∧ lo ≤ b ∧ ll[k]? = some r ∧ W.cell? ⟨b, off + k, none⟩ = some (.slice ar r.length cr) ∧ IntsAt W ar r.length r ∧ ∀ b' off', ar = some ⟨b', off', none⟩ → lo ≤ b'
theorem FrIntss.at {W : World} {lo n : Nat} {a : Option Addr} {ll : List (List Int)} (h : FrIntss W lo a n ll) : IntssAt W a n ll :=
  ⟨h.1, fun k hk => by
    obtain ⟨b, off, ar, cr, r, h1, h2, h3, h4, h5, h6, h7⟩ := h.2 k hk
    exact ⟨b, off, ar, cr, r, h1, h2, h4, h5, h6⟩⟩
theorem FrIntss.kept {S : Nat → Prop} {W W' : World} {lo n : Nat} {a : Option Addr} {ll : List (List Int)} (h : FrIntss W lo a n ll) (hk : Kept S W W') (hS : ∀ b, lo ≤ b → ¬ S b) : FrIntss W' lo a n ll :=
  ⟨h.1, fun k hkn => by
    obtain ⟨b, off, ar, cr, r, h1, h2, h3, h4, h5, h6, h7⟩ := h.2 k hkn
    exact ⟨b, off, ar, cr, r, h1, Nat.lt_of_lt_of_le h2 hk.size, h3, h4, (World.cell?_of_block (w := W) (a := ⟨b, off + k, none⟩) (hk.block b h2 (hS b h3))).trans h5, h6.kept hk fun b' off' e => hS b' (h7 b' off' e), h7⟩⟩
theorem FrIntss.set {W : World} {lo g i n : Nat} {x : Value} {a : Option Addr} {ll : List (List Int)} (h : FrIntss W lo a n ll) (hg : g < lo) : FrIntss (W.setCell ⟨g, i, none⟩ x) lo a n ll :=
  h.kept (keptSet' (S := fun k => k = g) rfl) fun b hb e => by omega
theorem FrIntss.low {W : World} {lo lo' n : Nat} {a : Option Addr} {ll : List (List Int)} (h : FrIntss W lo a n ll) (hl : lo' ≤ lo) : FrIntss W lo' a n ll :=
  ⟨h.1, fun k hk => by
    obtain ⟨b, off, ar, cr, r, h1, h2, h3, h4, h5, h6, h7⟩ := h.2 k hk
    exact ⟨b, off, ar, cr, r, h1, h2, Nat.le_trans hl h3, h4, h5, h6, fun b' off' e => Nat.le_trans hl (h7 b' off' e)⟩⟩
theorem OwnIntss.fr {W : World} {base : Nat} {v : Value} {ll : List (List Int)} (h : OwnIntss W base v ll) : ∃ a c, v = .slice a ll.length c ∧ FrIntss W base a ll.length ll := by
  obtain ⟨vs, ho, hr⟩ := h
  rcases ho.2 with ⟨rfl, h0⟩ | ⟨g, cap, cur, rfl, hb, hg, hnc, hcm, hcs, htake⟩
  · exact ⟨none, 0, by rw [h0], rfl, fun k hk => by omega⟩
  · refine ⟨_, cap, rfl, rfl, fun k hk => ?_⟩
    obtain ⟨u, r, hu, hrr, hor⟩ := hr.get hk
    obtain ⟨ar, cr, rfl, hi⟩ := hor.form
    refine ⟨g, 0, ar, cr, r, rfl, (Array.getElem?_eq_some_iff.1 hg).1, hb, hrr, ?_, hi, fun b' off' e => (hor.lt b' (by subst e; rfl)).1⟩
    have := World.ownsRow.cellAt (w := W) (base := base) ho k (by omega)
    rw [Nat.zero_add, this, hu]
theorem OwnIntss.on' {w w' : World} {base g : Nat} {v : Value} {ll : List (List Int)} (h : OwnIntss w base v ll) (k : Kept (fun b => b = g) w w') (hg : g < base) : OwnIntss w' base v ll := by
  obtain ⟨vs, ho, hr⟩ := h
  exact ⟨vs, k.ownsRow ho fun b h1 h2 => by have := (World.ownsRow.lt ho b h1).1; omega, hr.kept k fun u hu b h1 h2 => by have := (hr.lt u hu b h1).1; omega⟩
theorem OwnIntss.row {W : World} {base : Nat} {v : Value} {ll : List (List Int)} (h : OwnIntss W base v ll) {k : Nat} (hk : k < ll.length) :
    ∃ g cap ar cr r, v = .slice (some ⟨g, 0, none⟩) ll.length cap ∧ base ≤ g ∧ g < W.heap.size ∧ W.cell? ⟨g, k, none⟩ = some (.slice ar r.length cr) ∧ ll[k]? = some r ∧ OwnInts W base (.slice ar r.length cr) r := by
  obtain ⟨vs, ho, hr⟩ := h
  have ho2 := ho
  rcases ho.2 with ⟨rfl, h0⟩ | ⟨g, cap, cur, rfl, hb, hg, hnc, hcm, hcs, htake⟩
  · omega
  · obtain ⟨u, r, hu, hrr, hor⟩ := hr.get hk
    have hc := World.ownsRow.cellAt (w := W) (base := base) ho2 k (by omega)
    obtain ⟨ar, cr, rfl, hi⟩ := hor.form
    exact ⟨g, cap, ar, cr, r, rfl, (World.ownsRow.lt ho2 g rfl).1, (World.ownsRow.lt ho2 g rfl).2, by rw [← hu, ← hc], hrr, hor⟩
/-- the first row is cut -/
theorem FrIntss.cut {W : World} {lo g n : Nat} {ll : List (List Int)} (h : FrIntss W lo (some ⟨g, 0, none⟩) n ll) (hn : 0 < n) {r : List Int} {ar' : Option Addr} {cr' : Nat} (hI : IntsAt W ar' r.length r) (hlo : ∀ b' off', ar' = some ⟨b', off', none⟩ → lo ≤ b') (hc : ∃ b m c, W.cell? ⟨g, 0, none⟩ = some (.slice b m c)) (hf : W.frozen? ⟨g, 0, none⟩ = false) :
    FrIntss (W.setCell ⟨g, 0, none⟩ (.slice ar' r.length cr')) lo (some ⟨g, 0, none⟩) n (r :: ll.tail) := by
  refine ⟨by rw [List.length_cons, List.length_tail]; have := h.1; omega, fun k hk => ?_⟩
  cases k with
  | zero =>
    obtain ⟨b, off, ar, cr, r0, h1, h2, h3, h4, h5, h6, h7⟩ := h.2 0 hk
    simp at h1
    obtain ⟨rfl, rfl⟩ := h1
    obtain ⟨b2, m2, c2, e2⟩ := hc
    exact ⟨g, 0, ar', cr', r, rfl, by simpa using h2, h3, rfl, World.cell?_setCell_same _ _ _ e2, hI.setS _ ⟨b2, m2, c2, e2⟩, hlo⟩
  | succ k =>
    obtain ⟨b, off, ar, cr, r0, h1, h2, h3, h4, h5, h6, h7⟩ := h.2 (k + 1) hk
    simp at h1
    obtain ⟨rfl, rfl⟩ := h1
    exact ⟨g, 0, ar, cr, r0, rfl, by simpa using h2, h3, by rw [List.getElem?_cons_succ, List.getElem?_tail]; exact h4, (World.cell?_setCell_other _ _ _ _ (by simp)).trans h5, h6.setS _ hc, h7⟩
/-- the tail of a row that is read -/
theorem cutTail {W : World} {b c : Nat} {r : List Int} (h : IntsAt W (some ⟨b, 0, none⟩) r.length r) (h1 : 1 ≤ r.length) (hc : r.length ≤ c) : IntsAt W (cutA b c) r.tail.length r.tail :=
  ⟨rfl, fun k hk => by
    rw [List.length_tail] at hk
    obtain ⟨b', off, x, ha, hb, hx, hcell⟩ := h.2 (k + 1) (by omega)
    simp at ha
    obtain ⟨rfl, rfl⟩ := ha
    unfold cutA
    rw [if_neg (by omega)]
    exact ⟨b, 1, x, rfl, hb, by rw [List.getElem?_tail]; exact hx, by rw [← hcell]; congr 2; omega⟩⟩
theorem szIntss_cut {r : List Int} {ll : List (List Int)} (h0 : ll[0]? = some r) : szIntss (r.tail :: ll.tail) ≤ szIntss ll := by
  cases ll with
  | nil => simp at h0
  | cons x t =>
    simp at h0
    subst h0
    unfold szIntss sumLen
    simp only [List.map_cons, List.sum_cons, List.length_cons, List.tail_cons, List.length_tail]
    omega
/-- a graph, a number and a list of lists that are drawn -/
def RetAp (W : World) (e : Ending) (w' : World) : Prop :=
  ∃ p a c bs k aL cL L, e = .returned (.tuple #[.agg #[.int .i64 p, .slice a bs.length c], .int .i64 k, .slice aL L.length cL]) ∧ OwnBars w' W.heap.size (.slice a bs.length c) bs ∧ FrIntss w' W.heap.size aL L.length L ∧ (bs.length ≤ 25 ∧ (1 ≤ k ∧ k ≤ 3) ∧ szIntss L ≤ 1048576) ∧ Below W.heap.size W w'
end Go.Proofs.YtfbmpkdjhhcnpaaGreat

