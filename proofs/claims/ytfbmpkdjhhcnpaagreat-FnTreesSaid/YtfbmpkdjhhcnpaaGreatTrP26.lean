/- Forests in plain numbers: merging labels bar by bar, and spreading the least label n times, count the same pieces. No condition. -/
import Derived.Test.YtfbmpkdjhhcnpaaGreatTrP01
import Derived.Test.YtfbmpkdjhhcnpaaGreatTrP20
import Derived.StillTailTactics
import Derived.IntWalk
import Derived.OwnWalk
namespace Fo
set_option linter.unusedVariables false
set_option linter.unusedSimpArgs false

/-- connected by the edges -/
inductive Conn (es : List (Nat × Nat)) : Nat → Nat → Prop
  | refl (v : Nat) : Conn es v v
  | edge {a b : Nat} (h : (a, b) ∈ es) : Conn es a b
  | symm {a b : Nat} (h : Conn es a b) : Conn es b a
  | trans {a b c : Nat} (h : Conn es a b) (k : Conn es b c) : Conn es a c

theorem Conn.mono {es es' : List (Nat × Nat)} (hs : ∀ e ∈ es, e ∈ es') {a b : Nat} (h : Conn es a b) : Conn es' a b := by
  induction h with
  | refl v => exact .refl v
  | edge h => exact .edge (hs _ h)
  | symm _ ih => exact ih.symm
  | trans _ _ ih1 ih2 => exact ih1.trans ih2

/-- f labels the pieces, each label is a point of its piece -/
structure Lab (n : Nat) (es : List (Nat × Nat)) (f : Nat → Nat) : Prop where
  lt : ∀ v, v < n → f v < n
  idem : ∀ v, v < n → f (f v) = f v
  edge : ∀ e ∈ es, f e.1 = f e.2
  conn : ∀ v w, v < n → w < n → f v = f w → Conn es v w
theorem Lab.of {n : Nat} {es : List (Nat × Nat)} {f : Nat → Nat} (h : Lab n es f) {v w : Nat} (hc : Conn es v w) : f v = f w := by
  induction hc with
  | refl v => rfl
  | edge h1 => exact h.edge _ h1
  | symm _ ih => exact ih.symm
  | trans _ _ ih1 ih2 => exact ih1.trans ih2

def cnt (n : Nat) (p : Nat → Bool) : Nat := ((List.range n).filter p).length
theorem cnt_succ (n : Nat) (p : Nat → Bool) : cnt (n + 1) p = cnt n p + (if p n then 1 else 0) := by
  unfold cnt
  rw [List.range_succ, List.filter_append, List.length_append]
  cases h : p n <;> simp [h]
theorem cnt_le (n : Nat) (p : Nat → Bool) : cnt n p ≤ n := by
  have := List.length_filter_le p (List.range n)
  rw [List.length_range] at this
  exact this
theorem cnt_congr {n : Nat} {p q : Nat → Bool} (h : ∀ i, i < n → p i = q i) : cnt n p = cnt n q := by
  induction n with
  | zero => rfl
  | succ n ih => rw [cnt_succ, cnt_succ, ih fun i hi => h i (by omega), h n (by omega)]
theorem cnt_all {n : Nat} {p : Nat → Bool} (h : ∀ i, i < n → p i = true) : cnt n p = n := by
  induction n with
  | zero => rfl
  | succ n ih => rw [cnt_succ, ih fun i hi => h i (by omega), h n (by omega)]; simp
theorem cnt_drop {n b : Nat} {p q : Nat → Bool} (hb : b < n) (hp : p b = true) (h : ∀ i, i < n → q i = (p i && !(i == b))) : cnt n q + 1 = cnt n p := by
  induction n with
  | zero => omega
  | succ n ih =>
    rw [cnt_succ, cnt_succ, h n (by omega)]
    by_cases e : b = n
    · subst e
      have h2 : cnt b q = cnt b p := cnt_congr fun i hi => by
        rw [h i (by omega), show (i == b) = false by rw [beq_eq_false_iff_ne]; omega]; simp
      rw [h2, hp]; simp
    · have h2 := ih (by omega) fun i hi => h i (by omega)
      have h3 : (n == b) = false := by rw [beq_eq_false_iff_ne]; omega
      rw [h3]
      cases p n <;> simp <;> omega
theorem len_le {l m : List Nat} (hn : l.Nodup) (hs : ∀ x ∈ l, x ∈ m) : l.length ≤ m.length := by
  induction l generalizing m with
  | nil => simp
  | cons x t ih =>
    have hx : x ∈ m := hs x (List.mem_cons_self ..)
    have hd := List.nodup_cons.1 hn
    have h1 : t.length ≤ (m.erase x).length := ih hd.2 fun y hy => by
      have : y ≠ x := fun e => hd.1 (e ▸ hy)
      exact (List.mem_erase_of_ne this).2 (hs y (List.mem_cons_of_mem _ hy))
    have h2 := List.length_erase_of_mem hx
    have h3 := List.length_pos_of_mem hx
    simp only [List.length_cons]
    omega
theorem cnt_inj {n : Nat} {p q : Nat → Bool} (g : Nat → Nat) (hg : ∀ i, i < n → p i = true → g i < n ∧ q (g i) = true) (hi : ∀ i j, i < n → j < n → p i = true → p j = true → g i = g j → i = j) : cnt n p ≤ cnt n q := by
  unfold cnt
  have hnd : ((List.range n).filter p).Nodup := List.Pairwise.filter _ List.nodup_range
  have h1 : (((List.range n).filter p).map g).Nodup := by
    refine List.pairwise_map.2 ?_
    refine List.Pairwise.imp_of_mem (fun {a b} ha hb hab e => hab ?_) hnd
    have ha' := List.mem_filter.1 ha
    have hb' := List.mem_filter.1 hb
    exact hi a b (List.mem_range.1 ha'.1) (List.mem_range.1 hb'.1) ha'.2 hb'.2 e
  have h2 := len_le h1 (m := (List.range n).filter q) fun x hx => by
    obtain ⟨i, hi', rfl⟩ := List.mem_map.1 hx
    have h3 := List.mem_filter.1 hi'
    have h4 := hg i (List.mem_range.1 h3.1) h3.2
    exact List.mem_filter.2 ⟨List.mem_range.2 h4.1, h4.2⟩
  rwa [List.length_map] at h2

def fixN (n : Nat) (f : Nat → Nat) : Nat := cnt n fun i => f i == i
theorem lab_count {n : Nat} {es : List (Nat × Nat)} {f g : Nat → Nat} (hf : Lab n es f) (hg : Lab n es g) : fixN n f ≤ fixN n g := by
  refine cnt_inj g (fun i hi hp => ⟨hg.lt i hi, by simpa using hg.idem i hi⟩) fun i j hi hj hp hq e => ?_
  have h1 := hf.of (hg.conn i j hi hj e)
  have h2 : f i = i := by simpa using hp
  have h3 : f j = j := by simpa using hq
  omega
theorem lab_count_eq {n : Nat} {es : List (Nat × Nat)} {f g : Nat → Nat} (hf : Lab n es f) (hg : Lab n es g) : fixN n f = fixN n g := Nat.le_antisymm (lab_count hf hg) (lab_count hg hf)

def relab (f : Nat → Nat) (a b v : Nat) : Nat := if f v = b then a else f v
theorem lab_same {n : Nat} {es : List (Nat × Nat)} {f : Nat → Nat} (h : Lab n es f) {x y : Nat} (e : f x = f y) : Lab n (es ++ [(x, y)]) f :=
  ⟨h.lt, h.idem, fun d hd => by
    rcases List.mem_append.1 hd with h1 | h1
    · exact h.edge d h1
    · rw [List.mem_singleton.1 h1]; exact e, fun v w hv hw e => (h.conn v w hv hw e).mono fun d hd => List.mem_append_left _ hd⟩
theorem lab_step {n : Nat} {es : List (Nat × Nat)} {f : Nat → Nat} (h : Lab n es f) {x y : Nat} (hx : x < n) (hy : y < n) (e : f x ≠ f y) : Lab n (es ++ [(x, y)]) (relab f (f x) (f y)) ∧ fixN n (relab f (f x) (f y)) + 1 = fixN n f := by
  have hmono : ∀ {a b : Nat}, Conn es a b → Conn (es ++ [(x, y)]) a b := fun hc => hc.mono fun d hd => List.mem_append_left _ hd
  have hxy : Conn (es ++ [(x, y)]) x y := .edge (List.mem_append_right _ (List.mem_singleton.2 rfl))
  refine ⟨⟨fun v hv => ?_, fun v hv => ?_, fun d hd => ?_, fun v w hv hw he => ?_⟩, ?_⟩
  · unfold relab; split
    · exact h.lt x hx
    · exact h.lt v hv
  · unfold relab
    by_cases e1 : f v = f y
    · rw [if_pos e1, h.idem x hx, if_neg e]
    · rw [if_neg e1, h.idem v hv, if_neg e1]
  · rcases List.mem_append.1 hd with h1 | h1
    · unfold relab; rw [h.edge d h1]
    · rw [List.mem_singleton.1 h1]
      unfold relab
      rw [if_neg e, if_pos rfl]
  · unfold relab at he
    by_cases e1 : f v = f y <;> by_cases e2 : f w = f y
    · exact hmono (h.conn v w hv hw (e1.trans e2.symm))
    · rw [if_pos e1, if_neg e2] at he
      exact ((hmono (h.conn v y hv hy e1)).trans hxy.symm).trans (hmono (h.conn x w hx hw he))
    · rw [if_neg e1, if_pos e2] at he
      exact ((hmono (h.conn v x hv hx he)).trans hxy).trans (hmono (h.conn y w hy hw e2.symm))
    · rw [if_neg e1, if_neg e2] at he
      exact hmono (h.conn v w hv hw he)
  · refine cnt_drop (b := f y) (h.lt y hy) (by simpa using h.idem y hy) fun i hi => ?_
    unfold relab
    by_cases e1 : f i = f y
    · rw [if_pos e1]
      have h1 : (f x == i) = false := by
        rw [beq_eq_false_iff_ne]
        intro e2
        rw [← e2, h.idem x hx] at e1
        exact e e1
      rw [h1]
      by_cases e3 : i = f y
      · subst e3; simp
      · rw [e1, show (f y == i) = false by rw [beq_eq_false_iff_ne]; exact Ne.symm e3]; rfl
    · rw [if_neg e1]
      by_cases e3 : i = f y
      · subst e3; exact absurd (h.idem y hy) e1
      · rw [show (i == f y) = false by rw [beq_eq_false_iff_ne]; exact e3]; simp
theorem lab_id (n : Nat) : Lab n [] id := ⟨fun v h => h, fun v h => rfl, fun e h => by simp at h, fun v w hv hw e => by cases e; exact .refl _⟩
theorem fixN_id (n : Nat) : fixN n id = n := cnt_all fun i hi => by simp

/-- labels merged bar by bar; none if a bar joins two points of one label -/
def ufGo : (Nat → Nat) → List (Nat × Nat) → Option (Nat → Nat)
  | f, [] => some f
  | f, (a, b) :: es => if f a = f b then none else ufGo (relab f (f a) (f b)) es
def forestB (es : List (Nat × Nat)) : Bool := (ufGo id es).isSome
def InR (n : Nat) (es : List (Nat × Nat)) : Prop := ∀ e ∈ es, e.1 < n ∧ e.2 < n

theorem lab_ext {n : Nat} (es : List (Nat × Nat)) (hr : InR n es) (pre : List (Nat × Nat)) (f : Nat → Nat) (h : Lab n pre f) : ∃ g, Lab n (pre ++ es) g ∧ fixN n f ≤ fixN n g + es.length := by
  induction es generalizing pre f with
  | nil => exact ⟨f, by simpa using h, Nat.le_refl _⟩
  | cons e es ih =>
    obtain ⟨x, y⟩ := e
    have he := hr (x, y) (List.mem_cons_self ..)
    dsimp only at he
    have hr2 : InR n es := fun d hd => hr d (List.mem_cons_of_mem _ hd)
    by_cases hs : f x = f y
    · obtain ⟨g, h1, h2⟩ := ih hr2 (pre ++ [(x, y)]) f (lab_same h hs)
      exact ⟨g, by simpa using h1, by simp only [List.length_cons]; omega⟩
    · have hst := lab_step h he.1 he.2 hs
      obtain ⟨g, h1, h2⟩ := ih hr2 (pre ++ [(x, y)]) _ hst.1
      exact ⟨g, by simpa using h1, by have := hst.2; simp only [List.length_cons]; omega⟩
theorem uf_count {n : Nat} (es : List (Nat × Nat)) (hr : InR n es) (pre : List (Nat × Nat)) (f : Nat → Nat) (h : Lab n pre f) (hc : fixN n f + pre.length = n) {g : Nat → Nat} (hg : Lab n (pre ++ es) g) :
    (ufGo f es).isSome = decide (fixN n g + (pre.length + es.length) = n) := by
  induction es generalizing pre f with
  | nil =>
    rw [List.append_nil] at hg
    rw [lab_count_eq hg h]
    simp [ufGo, hc]
  | cons e es ih =>
    obtain ⟨x, y⟩ := e
    have he := hr (x, y) (List.mem_cons_self ..)
    dsimp only at he
    have hr2 : InR n es := fun d hd => hr d (List.mem_cons_of_mem _ hd)
    have hg2 : Lab n ((pre ++ [(x, y)]) ++ es) g := by simpa using hg
    by_cases hs : f x = f y
    · obtain ⟨g2, h1, h2⟩ := lab_ext es hr2 (pre ++ [(x, y)]) f (lab_same h hs)
      have h3 := lab_count_eq hg2 h1
      simp only [ufGo, if_pos hs, Option.isSome_none, List.length_cons]
      symm
      rw [decide_eq_false_iff_not]
      omega
    · have hst := lab_step h he.1 he.2 hs
      simp only [ufGo, if_neg hs]
      rw [ih hr2 (pre ++ [(x, y)]) _ hst.1 (by have := hst.2; simp only [List.length_append, List.length_cons, List.length_nil]; omega) hg2]
      congr 1
      simp only [List.length_append, List.length_cons, List.length_nil, eq_iff_iff]
      omega

/-- the least label spreads over one bar -/
def mstep (r : Nat → Nat) (e : Nat × Nat) (v : Nat) : Nat := if v = e.2 then min (r e.1) (r e.2) else if v = e.1 then min (r e.1) (r e.2) else r v
def mround (es : List (Nat × Nat)) (r : Nat → Nat) : Nat → Nat := es.foldl mstep r
def mrounds (es : List (Nat × Nat)) : Nat → (Nat → Nat)
  | 0 => id
  | t + 1 => mround es (mrounds es t)
theorem mstep_le (r : Nat → Nat) (e : Nat × Nat) (v : Nat) : mstep r e v ≤ r v := by
  unfold mstep
  split
  · subst v; exact Nat.min_le_right _ _
  · split
    · subst v; exact Nat.min_le_left _ _
    · exact Nat.le_refl _
/-- each label is of the point's own piece, and lies in the range -/
def Own (n : Nat) (es : List (Nat × Nat)) (r : Nat → Nat) : Prop := ∀ v, v < n → r v < n ∧ Conn es v (r v)
theorem own_step {n : Nat} {es : List (Nat × Nat)} {r : Nat → Nat} (h : Own n es r) {e : Nat × Nat} (he : e ∈ es) (hr : InR n es) : Own n es (mstep r e) := by
  intro v hv
  obtain ⟨x, y⟩ := e
  obtain ⟨hx, hy⟩ := hr _ he
  have hxy : Conn es x y := .edge he
  unfold mstep
  dsimp only at hx hy ⊢
  have key : ∀ z, z < n → Conn es z x → min (r x) (r y) < n ∧ Conn es z (min (r x) (r y)) := fun z hz hc => by
    rcases Nat.le_total (r x) (r y) with hm | hm
    · rw [Nat.min_eq_left hm]; exact ⟨(h x hx).1, hc.trans (h x hx).2⟩
    · rw [Nat.min_eq_right hm]; exact ⟨(h y hy).1, (hc.trans hxy).trans (h y hy).2⟩
  split
  · subst v; exact key y hy hxy.symm
  · split
    · subst v; exact key x hx (.refl _)
    · exact h v hv
theorem own_round {n : Nat} {es : List (Nat × Nat)} (hr : InR n es) : ∀ (ds : List (Nat × Nat)) (r : Nat → Nat), (∀ d ∈ ds, d ∈ es) → Own n es r → Own n es (mround ds r)
  | [], r, _, h => h
  | d :: ds, r, hs, h => own_round hr ds (mstep r d) (fun x hx => hs x (List.mem_cons_of_mem _ hx)) (own_step h (hs d (List.mem_cons_self ..)) hr)
/-- m is the least of its piece -/
def Least (n : Nat) (es : List (Nat × Nat)) (m : Nat) : Prop := m < n ∧ ∀ k, k < n → Conn es m k → m ≤ k
theorem least_ge {n : Nat} {es : List (Nat × Nat)} {r : Nat → Nat} {m v : Nat} (hm : Least n es m) (h : Own n es r) (hv : v < n) (hc : Conn es m v) : m ≤ r v :=
  hm.2 _ (h v hv).1 (hc.trans (h v hv).2)
/-- what one round does to the points labelled m: all edges are closed, or a point is new -/
theorem round_mid {n : Nat} {es : List (Nat × Nat)} (hr : InR n es) {m : Nat} (hm : Least n es m) : ∀ (ds : List (Nat × Nat)) (r : Nat → Nat), (∀ d ∈ ds, d ∈ es) → Own n es r →
    (∀ v, v < n → r v = m → mround ds r v = m) ∧ ∀ d ∈ ds, (r d.1 = m ∨ r d.2 = m) → mround ds r d.1 = m ∧ mround ds r d.2 = m
  | [], r, _, h => ⟨fun v _ hv => hv, fun d hd => by simp at hd⟩
  | d :: ds, r, hs, h => by
    have hd := hs d (List.mem_cons_self ..)
    have h1 := own_step h hd hr
    have ih := round_mid hr hm ds (mstep r d) (fun x hx => hs x (List.mem_cons_of_mem _ hx)) h1
    have keep : ∀ v, v < n → r v = m → mstep r d v = m := fun v hv e => by
      have ha := mstep_le r d v
      have hb := least_ge hm h1 hv (by rw [← e]; exact (h v hv).2.symm)
      omega
    obtain ⟨x, y⟩ := d
    obtain ⟨hx, hy⟩ := hr _ hd
    have hxy : Conn es x y := .edge hd
    dsimp only at hx hy
    refine ⟨fun v hv e => ih.1 v hv (keep v hv e), fun c hc ho => ?_⟩
    rcases List.mem_cons.1 hc with rfl | hc
    · have hmm : min (r x) (r y) = m := by
        have hcx : Conn es m x := by
          rcases ho with e | e
          · dsimp only at e; rw [← e]; exact (h x hx).2.symm
          · dsimp only at e; rw [← e]; exact ((h y hy).2.symm).trans hxy.symm
        have h2 := least_ge hm h hx hcx
        have h3 := least_ge hm h hy (hcx.trans hxy)
        dsimp only at ho
        omega
      refine ⟨ih.1 x hx ?_, ih.1 y hy ?_⟩
      · unfold mstep; dsimp only; split
        · exact hmm
        · rw [if_pos rfl]; exact hmm
      · unfold mstep; dsimp only; rw [if_pos rfl]; exact hmm
    · obtain ⟨hc1, hc2⟩ := hr _ (hs c (List.mem_cons_of_mem _ hc))
      refine ih.2 c hc (ho.imp (keep _ hc1) (keep _ hc2))
theorem own_rounds {n : Nat} {es : List (Nat × Nat)} (hr : InR n es) : ∀ t, Own n es (mrounds es t)
  | 0 => fun v hv => ⟨hv, .refl _⟩
  | t + 1 => own_round hr es _ (fun _ h => h) (own_rounds hr t)
theorem least_self {n : Nat} {es : List (Nat × Nat)} (hr : InR n es) {m : Nat} (hm : Least n es m) : ∀ t, mrounds es t m = m
  | 0 => rfl
  | t + 1 => (round_mid hr hm es _ (fun _ h => h) (own_rounds hr t)).1 m hm.1 (least_self hr hm t)
def Closed (es : List (Nat × Nat)) (m : Nat) (r : Nat → Nat) : Prop := ∀ d ∈ es, r d.1 = m ↔ r d.2 = m
theorem closed_conn {es : List (Nat × Nat)} {m : Nat} {r : Nat → Nat} (h : Closed es m r) {v w : Nat} (hc : Conn es v w) : r v = m ↔ r w = m := by
  induction hc with
  | refl v => exact Iff.rfl
  | edge he => exact h _ he
  | symm _ ih => exact ih.symm
  | trans _ _ ih1 ih2 => exact ih1.trans ih2
theorem cnt_lt {n : Nat} {p q : Nat → Bool} (h : ∀ i, i < n → p i = true → q i = true) {b : Nat} (hb : b < n) (hp : p b = false) (hq : q b = true) : cnt n p + 1 ≤ cnt n q := by
  have h1 : cnt n p ≤ cnt n fun i => q i && !(i == b) := by
    refine cnt_inj id (fun i hi hpi => ⟨hi, ?_⟩) fun i j _ _ _ _ e => e
    have : i ≠ b := fun e => by subst e; rw [hp] at hpi; exact absurd hpi (by decide)
    simp [h i hi hpi, this]
  have h2 := cnt_drop (p := q) (q := fun i => q i && !(i == b)) hb hq fun i _ => rfl
  omega
theorem spread {n : Nat} {es : List (Nat × Nat)} (hr : InR n es) {m : Nat} (hm : Least n es m) : ∀ t, Closed es m (mrounds es t) ∨ t + 1 ≤ cnt n fun v => mrounds es t v == m
  | 0 => by
    right
    have h1 : cnt n (fun _ => false) + 1 ≤ cnt n fun v => mrounds es 0 v == m := cnt_lt (fun i _ e => absurd e (by decide)) hm.1 rfl (by simp [mrounds])
    omega
  | t + 1 => by
    have hmid := round_mid hr hm es (mrounds es t) (fun _ h => h) (own_rounds hr t)
    rcases spread hr hm t with hc | hc
    · left
      intro d hd
      obtain ⟨hx, hy⟩ := hr _ hd
      have hall : ∀ v, v < n → mrounds es (t + 1) v = m → mrounds es t v = m := fun v hv e => by
        have h1 := (own_rounds hr (t + 1) v hv).2
        rw [e] at h1
        exact (closed_conn hc h1).2 (least_self hr hm t)
      constructor
      · intro e
        exact hmid.1 _ hy ((hc d hd).1 (hall _ hx e))
      · intro e
        exact hmid.1 _ hx ((hc d hd).2 (hall _ hy e))
    · by_cases hnew : ∃ v, v < n ∧ mrounds es t v ≠ m ∧ mrounds es (t + 1) v = m
      · right
        obtain ⟨v, hv, h1, h2⟩ := hnew
        have := cnt_lt (p := fun v => mrounds es t v == m) (q := fun v => mrounds es (t + 1) v == m) (fun i hi e => by
          have : mrounds es t i = m := by simpa using e
          show (mrounds es (t + 1) i == m) = true
          rw [beq_iff_eq]
          exact hmid.1 i hi this) hv (by simpa using h1) (by simpa using h2)
        omega
      · left
        intro d hd
        obtain ⟨hx, hy⟩ := hr _ hd
        have old : ∀ v, v < n → mrounds es (t + 1) v = m → mrounds es t v = m := fun v hv e => Classical.byContradiction fun h => hnew ⟨v, hv, h, e⟩
        constructor
        · intro e
          exact (hmid.2 d hd (.inl (old _ hx e))).2
        · intro e
          exact (hmid.2 d hd (.inr (old _ hy e))).1
theorem least_ex {n : Nat} (es : List (Nat × Nat)) : ∀ k v, v ≤ k → v < n → ∃ m, Least n es m ∧ Conn es v m
  | k, v, hk, hv => by
    by_cases h : ∃ w, w < n ∧ w < v ∧ Conn es v w
    · obtain ⟨w, hw, hlt, hc⟩ := h
      cases k with
      | zero => omega
      | succ k =>
        obtain ⟨m, hm, hc2⟩ := least_ex es k w (by omega) hw
        exact ⟨m, hm, hc.trans hc2⟩
    · exact ⟨v, ⟨hv, fun k hk hc => Nat.le_of_not_lt fun hlt => h ⟨k, hk, hlt, hc⟩⟩, .refl _⟩
theorem rounds_least {n : Nat} {es : List (Nat × Nat)} (hr : InR n es) {m v : Nat} (hm : Least n es m) (hc : Conn es v m) : mrounds es n v = m := by
  rcases spread hr hm n with h | h
  · exact (closed_conn h hc).2 (least_self hr hm n)
  · have := cnt_le n fun v => mrounds es n v == m
    omega
theorem lab_rounds {n : Nat} {es : List (Nat × Nat)} (hr : InR n es) : Lab n es (mrounds es n) := by
  refine ⟨fun v hv => (own_rounds hr n v hv).1, fun v hv => ?_, fun e he => ?_, fun v w hv hw e => ?_⟩
  · obtain ⟨m, hm, hc⟩ := least_ex es v v (Nat.le_refl _) hv
    rw [rounds_least hr hm hc, least_self hr hm n]
  · obtain ⟨hx, hy⟩ := hr _ he
    obtain ⟨m, hm, hc⟩ := least_ex es e.1 e.1 (Nat.le_refl _) hx
    rw [rounds_least hr hm hc, rounds_least hr hm ((Conn.edge he).symm.trans hc)]
  · have h1 := (own_rounds hr n v hv).2
    have h2 := (own_rounds hr n w hw).2
    rw [e] at h1
    exact h1.trans h2.symm
/-- the two ways to tell a forest agree -/
theorem forest_iff {n : Nat} {es : List (Nat × Nat)} (hr : InR n es) : forestB es = decide ((fixN n (mrounds es n) : Int) = (n : Int) - (es.length : Int)) := by
  have h := uf_count es hr [] id (lab_id n) (by simp [fixN_id]) (g := mrounds es n) (by simpa using lab_rounds hr)
  unfold forestB
  rw [h]
  congr 1
  simp only [List.length_nil, eq_iff_iff]
  omega
end Fo

namespace Go.Proofs.YtfbmpkdjhhcnpaaGreat
open Go.RowKit Gr
set_option maxRecDepth 100000
set_option linter.unusedVariables false
set_option linter.unusedSimpArgs false

end Go.Proofs.YtfbmpkdjhhcnpaaGreat

