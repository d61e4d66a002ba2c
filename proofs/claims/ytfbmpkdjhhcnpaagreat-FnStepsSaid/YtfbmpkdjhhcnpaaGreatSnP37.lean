/- Undoing a step and laying it again, in the count matroid's words. No program in sight. -/
import Derived.Test.YtfbmpkdjhhcnpaaGreatSnP24
import Derived.Test.YtfbmpkdjhhcnpaaGreatSnP36
import Derived.Test.YtfbmpkdjhhcnpaaGreatSnP20
import Derived.Test.YtfbmpkdjhhcnpaaGreatSnP34
import Derived.Test.YtfbmpkdjhhcnpaaGreatSnP30
import Derived.Test.YtfbmpkdjhhcnpaaGreatSnP06
namespace Go.Proofs.YtfbmpkdjhhcnpaaGreat
open Go.RowKit
set_option maxRecDepth 100000
set_option linter.unusedVariables false
set_option linter.unusedSimpArgs false
theorem ord_eq {l m : List BarT} (hl : Ord l) (hm : Ord m) (hp : l.Perm m) : l = m :=
  hp.eq_of_pairwise (fun a b _ _ h1 h2 => by rw [barLe_iff] at h1 h2; exact Prod.ext (by omega) (by omega)) hl hm
theorem bkG {P : Nat} {l : List BarT} (h : isGraphB ((P : Int), l) = true) : ∀ e ∈ l, Mtr.Bk P e := fun e he => by
  obtain ⟨k, hk⟩ := List.getElem?_of_mem he
  exact isGraphB_bar h hk
theorem sparse_ind {P : Nat} {l : List BarT} (hg : isGraphB ((P : Int), l) = true) : sparseB ((P : Int), l) 2 3 = true ↔ Mtr.Ind P l := by
  rw [← ind_over (isGraphB_ends hg)]
  unfold sparseB
  rw [hg, show rangeB 2 3 = true by decide]
  simp
theorem degTo_cnt (l : List BarT) (v : Int) : ∀ k, degTo l v k = (((l.take k).countP (Mtr.tch v) : Nat) : Int)
  | 0 => by simp [degTo]
  | k + 1 => by
    unfold degTo
    rw [degTo_cnt l v k]
    cases h : l[k]? with
    | none =>
      have h1 : l.length ≤ k := List.getElem?_eq_none_iff.1 h
      rw [List.take_of_length_le h1, List.take_of_length_le (by omega)]
    | some x =>
      rw [take_succ_of h, List.countP_append, List.countP_cons, List.countP_nil]
      have e : (Mtr.tch v x = true) = (x.1 = v ∨ x.2 = v) := by unfold Mtr.tch; simp
      dsimp only
      by_cases hx : x.1 = v ∨ x.2 = v
      · rw [if_pos hx, if_pos (by rw [e]; exact hx)]; omega
      · rw [if_neg hx, if_neg (by rw [e]; exact hx)]; omega
theorem degB_deg (l : List BarT) (v : Int) : degB l v = ((Mtr.deg l v : Nat) : Int) := by
  unfold degB Mtr.deg
  rw [degTo_cnt, List.take_length]
theorem near_deg (l : List BarT) (v : Int) : (nearL l v).length = Mtr.deg l v := by
  unfold nearL Mtr.deg
  rw [List.length_map, List.countP_eq_length_filter]
  rfl
theorem drop_drp (l : List BarT) (v : Int) : dropL l v = Mtr.drp l v := rfl
theorem dif2 {p a b : Int} : difB p [a, b] = true ↔ (0 ≤ a ∧ a < p) ∧ (0 ≤ b ∧ b < p) ∧ a ≠ b := by
  simp [difB, difTo, inB]; omega
theorem dif3 {p a b c : Int} : difB p [a, b, c] = true ↔ (0 ≤ a ∧ a < p) ∧ (0 ≤ b ∧ b < p) ∧ (0 ≤ c ∧ c < p) ∧ a ≠ b ∧ a ≠ c ∧ b ≠ c := by
  simp [difB, difTo, inB]; omega
theorem dif4 {p a b c d : Int} : difB p [a, b, c, d] = true ↔ (0 ≤ a ∧ a < p) ∧ (0 ≤ b ∧ b < p) ∧ (0 ≤ c ∧ c < p) ∧ (0 ≤ d ∧ d < p) ∧ a ≠ b ∧ a ≠ c ∧ a ≠ d ∧ b ≠ c ∧ b ≠ d ∧ c ≠ d := by
  simp [difB, difTo, inB]; omega
theorem barM_mk (a b : Int) : barM a b = Mtr.mkE a b := rfl
theorem mk_mm (a b : Int) : Mtr.mkE (min a b) (max a b) = Mtr.mkE a b := by unfold Mtr.mkE; exact Prod.ext (by dsimp only; omega) (by dsimp only; omega)
theorem idx_mem {l : List BarT} {x : BarT} : 0 ≤ idxB l x ↔ x ∈ l := by
  unfold idxB
  split
  · rename_i h; simp [h]
  · rename_i h; simp [h]
theorem cut_perm {l : List BarT} {x : BarT} (h : x ∈ l) : l.Perm (x :: cutG l (idxB l x).toNat) := by
  unfold idxB
  rw [if_pos h, Int.toNat_natCast]
  have hk := List.idxOf_lt_length_iff.2 h
  have e : l = l.take (l.idxOf x) ++ x :: l.drop (l.idxOf x + 1) := by
    conv => lhs; rw [← List.take_append_drop (l.idxOf x) l, List.drop_eq_getElem_cons hk]
    rw [List.getElem_idxOf]
  unfold cutG
  conv => lhs; rw [e]
  exact List.perm_middle
theorem step_one {P : Nat} {a b : Int} (hP : 1 ≤ P ∧ P ≤ 8) (hd : difB P [a, b] = true) : stepF ((P : Int), []) (0, 0, a, b, 0) = (((P : Int), [barM a b]), true) := by
  have hg : isGraphB ((P : Int), []) = true := by
    refine isGraphB_of (by simp [inB]; omega) (by simp) (by simp) List.Pairwise.nil
  unfold stepF cnd0
  rw [hg]
  dsimp only
  rw [hd]
  rfl
theorem step_two {P : Nat} {x : List BarT} {v a b : Int} (hg : isGraphB ((P : Int), x) = true) (hl : x.length ≤ 21) (hd : difB P [v, a, b] = true) (hv : Mtr.deg x v = 0) (ha : 0 < Mtr.deg x a) (hb : 0 < Mtr.deg x b) :
    stepF ((P : Int), x) (1, v, a, b, 0) = (((P : Int), putsL x [barM v a, barM v b]), true) := by
  unfold stepF cnd0 cnd1
  dsimp only
  rw [hg, hd, degB_deg, degB_deg, degB_deg, hv]
  rw [decide_eq_true (show (0 : Int) < (Mtr.deg x a : Nat) by omega), decide_eq_true (show (0 : Int) < (Mtr.deg x b : Nat) by omega), decide_eq_true hl]
  rfl
theorem step_three {P : Nat} {x : List BarT} {v a b c : Int} (hg : isGraphB ((P : Int), x) = true) (hl : x.length ≤ 21) (hd : difB P [v, a, b, c] = true) (hv : Mtr.deg x v = 0) (hc : 0 < Mtr.deg x c) (hm : barM a b ∈ x) :
    stepF ((P : Int), x) (2, v, a, b, c) = (((P : Int), putsL (cutG x (idxB x (barM a b)).toNat) [barM v a, barM v b, barM v c]), true) := by
  unfold stepF cnd0 cnd1 cnd2
  dsimp only
  rw [hg, hd, degB_deg x v, degB_deg x c, hv]
  rw [decide_eq_true (show (0 : Int) < (Mtr.deg x c : Nat) by omega), decide_eq_true (idx_mem.2 hm), decide_eq_true hl]
  rfl
theorem puts_ind {n : Nat} {x K : List BarT} (h : Mtr.Ind n (K ++ x)) : Mtr.Ind n (putsL x K) := h.perm ((List.perm_append_comm).trans (putsL_perm K x).symm)
theorem stepF_cases {p : Int} {l : List BarT} {s : StepT} {g : GraphT} (h : stepF (p, l) s = (g, true)) : isGraphB (p, l) = true ∧ l.length ≤ 21 ∧
    ((l = [] ∧ ∃ a b, difB p [a, b] = true ∧ g = (p, putsL l [barM a b])) ∨
     (∃ v a b, difB p [v, a, b] = true ∧ Mtr.deg l v = 0 ∧ 0 < Mtr.deg l a ∧ 0 < Mtr.deg l b ∧ g = (p, putsL l [barM v a, barM v b])) ∨
     (∃ v a b c, difB p [v, a, b, c] = true ∧ Mtr.deg l v = 0 ∧ 0 < Mtr.deg l c ∧ barM a b ∈ l ∧ g = (p, putsL (cutG l (idxB l (barM a b)).toNat) [barM v a, barM v b, barM v c]))) := by
  unfold stepF at h
  split at h
  · rename_i hc
    simp only [Bool.and_eq_true, decide_eq_true_eq] at hc
    refine ⟨hc.1, hc.2, ?_⟩
    split at h
    · rename_i h0
      unfold cnd0 at h0
      simp only [Bool.and_eq_true, beq_iff_eq] at h0
      refine .inl ⟨List.eq_nil_of_length_eq_zero (by have := h0.2.2.2.1; omega), _, _, h0.2.2.2.2, ?_⟩
      have := congrArg Prod.fst h
      exact this.symm
    · split at h
      · rename_i h1
        unfold cnd1 at h1
        simp only [Bool.and_eq_true, beq_iff_eq, Bool.not_eq_true', decide_eq_true_eq, decide_eq_false_iff_not, degB_deg] at h1
        refine .inr (.inl ⟨_, _, _, h1.2.2.1, by have := h1.2.2.2.1; omega, by have := h1.2.2.2.2.1; omega, by have := h1.2.2.2.2.2; omega, ?_⟩)
        have := congrArg Prod.fst h
        exact this.symm
      · split at h
        · rename_i h2
          unfold cnd2 at h2
          simp only [Bool.and_eq_true, beq_iff_eq, Bool.not_eq_true', decide_eq_true_eq, decide_eq_false_iff_not, degB_deg] at h2
          refine .inr (.inr ⟨_, _, _, _, h2.2.1, by have := h2.2.2.1; omega, by have := h2.2.2.2.1; omega, idx_mem.1 h2.2.2.2.2, ?_⟩)
          have := congrArg Prod.fst h
          exact this.symm
        · have := congrArg Prod.snd h
          cases this
  · have := congrArg Prod.snd h
    cases this
theorem step_keep {P : Nat} {l : List BarT} {s : StepT} {g : GraphT} (h : stepF ((P : Int), l) s = (g, true)) (hI : Mtr.Ind P l) : ∃ m, g = ((P : Int), m) ∧ isGraphB ((P : Int), m) = true ∧ Mtr.Ind P m ∧ (l = [] → m.length = 1) ∧ (l ≠ [] → m.length = l.length + 2) := by
  obtain ⟨hg, hl, hc⟩ := stepF_cases h
  have hbd := isGraphB_bd hg
  have key : ∀ (x K : List BarT), isGraphB ((P : Int), x) = true → x.length + K.length ≤ 24 → (∀ e ∈ K, Mtr.Bk P e) → isGraphB ((P : Int), putsL x K) = true := fun x K hx hlen hK =>
    isGraphB_of (by simp [inB]; omega) (by rw [putsL_length]; exact hlen) (fun e he => by
      have := (putsL_perm K x).mem_iff.1 he
      rcases List.mem_append.1 this with h1 | h1
      · exact bkG hx e h1
      · exact hK e h1) (putsL_ord K (isGraphB_ord hx))
  rcases hc with ⟨rfl, a, b, hd, rfl⟩ | ⟨v, a, b, hd, hv, ha, hb, rfl⟩ | ⟨v, a, b, c, hd, hv, hcc, hm, rfl⟩
  · obtain ⟨h1, h2, h3⟩ := dif2.1 hd
    have hbk : Mtr.Bk P (Mtr.mkE a b) := Mtr.bk_mk h1 h2 h3
    refine ⟨_, rfl, key _ _ hg (by simp) (fun e he => by rw [List.mem_singleton.1 he]; exact hbk), puts_ind (Mtr.Ind.one hbk), fun _ => rfl, fun h => absurd rfl h⟩
  · obtain ⟨h1, h2, h3, h4, h5, h6⟩ := dif3.1 hd
    refine ⟨_, rfl, key _ _ hg (by simp; omega) (fun e he => ?_), puts_ind (hI.two hv h1 h2 h3 h4 h5 h6), fun h => ?_, fun _ => by rw [putsL_length]; rfl⟩
    · rcases List.mem_cons.1 he with rfl | he
      · exact Mtr.bk_mk h1 h2 h4
      · rw [List.mem_singleton.1 he]; exact Mtr.bk_mk h1 h3 h5
    · subst h; simp [Mtr.deg] at ha
  · obtain ⟨h1, h2, h3, h4, h5, h6, h7, h8, h9, h10⟩ := dif4.1 hd
    have hp := cut_perm hm
    have hx := isGraphB_sub hg (cutG_sub l (idxB l (barM a b)).toNat)
    have hlen := hp.length_eq
    rw [List.length_cons] at hlen
    have hdv : Mtr.deg (cutG l (idxB l (barM a b)).toNat) v = 0 := by
      have := (cutG_sub l (idxB l (barM a b)).toNat).countP_le (p := Mtr.tch v)
      unfold Mtr.deg at hv ⊢
      omega
    refine ⟨_, rfl, key _ _ hx (by simp; omega) (fun e he => ?_), puts_ind ((hI.perm hp).three hdv h1 h2 h3 h4 h5 h6 h7 h8 h9 h10), fun h => ?_, fun _ => by rw [putsL_length]; simp; omega⟩
    · rcases List.mem_cons.1 he with rfl | he
      · exact Mtr.bk_mk h1 h2 h5
      · rcases List.mem_cons.1 he with rfl | he
        · exact Mtr.bk_mk h1 h3 h6
        · rw [List.mem_singleton.1 he]; exact Mtr.bk_mk h1 h4 h7
    · subst h; simp at hm
theorem len_two {α : Type} {l : List α} (h : l.length = 2) : ∃ a b, l = [a, b] := match l, h with
  | [a, b], _ => ⟨a, b, rfl⟩
theorem len_three {α : Type} {l : List α} (h : l.length = 3) : ∃ a b c, l = [a, b, c] := match l, h with
  | [a, b, c], _ => ⟨a, b, c, rfl⟩
theorem near_le {P : Nat} {l : List BarT} (hI : Mtr.Ind P l) (hb : ∀ e ∈ l, Mtr.Bk P e) {a v : Int} (hne : a ≠ v) : (l.filter (Mtr.tch v)).countP (Mtr.tch a) ≤ 1 := by
  rw [List.countP_filter]
  exact Mtr.mult hI hb a v hne
theorem used_of {l : List BarT} {e : BarT} {a : Int} (he : e ∈ l) (h : Mtr.tch a e = true) : Mtr.used l a = true := decide_eq_true (List.countP_pos_iff.2 ⟨e, he, h⟩)
theorem used_pos {l : List BarT} {a : Int} (h : Mtr.used l a = true) : 0 < Mtr.deg l a := of_decide_eq_true h
theorem used_zero {l : List BarT} {a : Int} (h : Mtr.used l a = false) : Mtr.deg l a = 0 := by
  have := of_decide_eq_false h
  omega
theorem undo_two {P : Nat} {l : List BarT} {v : Nat} (hv : v < P) (hg : isGraphB ((P : Int), l) = true) (hL : Mtr.Lam P l) (h2 : 2 ≤ l.length) (hl : l.length ≤ 22) (hd : (nearL l v).length = 2) :
    Mtr.Lam P (dropL l v) ∧ stepF ((P : Int), dropL l v) (1, (v : Int), gI (nearL l v) 0, gI (nearL l v) 1, 0) = (((P : Int), l), true) := by
  have hd' : Mtr.deg l v = 2 := by rw [← near_deg]; exact hd
  obtain ⟨e1, e2, hf⟩ : ∃ e1 e2, l.filter (Mtr.tch v) = [e1, e2] := len_two (by rw [← List.countP_eq_length_filter]; exact hd')
  have hm : ∀ e ∈ [e1, e2], e ∈ l ∧ Mtr.tch v e = true := fun e he => by rw [← hf] at he; exact List.mem_filter.1 he
  obtain ⟨m1, t1⟩ := hm e1 (by simp)
  obtain ⟨m2, t2⟩ := hm e2 (by simp)
  obtain ⟨r1, n1, q1, u1⟩ := Mtr.oth_facts (bkG hg e1 m1) t1
  obtain ⟨r2, n2, q2, u2⟩ := Mtr.oth_facts (bkG hg e2 m2) t2
  have hn : nearL l v = [Mtr.oth e1 v, Mtr.oth e2 v] := by
    unfold nearL
    rw [show l.filter (hasV v) = l.filter (Mtr.tch v) from rfl, hf]; rfl
  have hp : l.Perm (e1 :: e2 :: dropL l v) := by
    have := (List.filter_append_perm (Mtr.tch v) l).symm
    rw [hf] at this
    exact this
  have hc1 := near_le hL.ind hL.bk n1
  rw [hf] at hc1
  generalize Mtr.oth e1 v = a at *
  generalize Mtr.oth e2 v = b at *
  have hab : a ≠ b := by
    rintro rfl
    rw [List.countP_cons, List.countP_cons, List.countP_nil, if_pos u1, if_pos u2] at hc1
    omega
  obtain ⟨k1, k2, -⟩ := hL.left h2 (show 0 < Mtr.deg l v by omega)
  have ka := used_pos (k1 a n1 (used_of m1 u1))
  have kb := used_pos (k1 b n2 (used_of m2 u2))
  have hgd := dropL_graph (v : Int) hg
  have hlen := hp.length_eq
  simp only [List.length_cons] at hlen
  refine ⟨hL.drop2 h2 hd', ?_⟩
  rw [hn]
  show stepF ((P : Int), dropL l v) (1, (v : Int), a, b, 0) = _
  rw [step_two hgd (by omega) (dif3.2 ⟨⟨by omega, by omega⟩, r1, r2, n1.symm, n2.symm, hab⟩) (used_zero k2) ka kb]
  have e : putsL (dropL l v) [barM v a, barM v b] = l := by
    refine ord_eq (putsL_ord _ (isGraphB_ord hgd)) (isGraphB_ord hg) ?_
    refine (putsL_perm _ _).trans (List.perm_append_comm.trans ?_)
    rw [barM_mk, barM_mk, ← q1, ← q2]
    exact hp.symm
  rw [e]
theorem undo_three {P : Nat} {l : List BarT} {v a b c : Int} (hg : isGraphB ((P : Int), l) = true) (hL : Mtr.Lam P l) (h2 : 2 ≤ l.length) (hl : l.length ≤ 22) (hd : Mtr.deg l v = 3) (hv : 0 ≤ v ∧ v < P)
    (hp : l.Perm (Mtr.mkE v a :: Mtr.mkE v b :: Mtr.mkE v c :: dropL l v)) (ra : 0 ≤ a ∧ a < P) (rb : 0 ≤ b ∧ b < P) (rc : 0 ≤ c ∧ c < P) (na : a ≠ v) (nb : b ≠ v) (nc : c ≠ v) (hab : a ≠ b) (hac : a ≠ c) (hbc : b ≠ c)
    (ua : Mtr.used l a = true) (ub : Mtr.used l b = true) (uc : Mtr.used l c = true) (hS : sparseB ((P : Int), putL (dropL l v) (min a b, max a b)) 2 3 = true) :
    Mtr.Lam P (putL (dropL l v) (min a b, max a b)) ∧ stepF ((P : Int), putL (dropL l v) (min a b, max a b)) (2, v, min a b, max a b, c) = (((P : Int), l), true) := by
  have hgx := sparseB_graph hS
  have hIx := (sparse_ind hgx).1 hS
  have hq : (putL (dropL l v) (min a b, max a b)).Perm (Mtr.mkE a b :: Mtr.drp l v) := putL_perm _ _
  have hlen := hp.length_eq
  have hlx := hq.length_eq
  simp only [List.length_cons, ← drop_drp] at hlen hlx
  obtain ⟨k1, k2, -⟩ := hL.left h2 (show 0 < Mtr.deg l v by omega)
  have hends : ((Mtr.mkE a b).1 ≠ v ∧ Mtr.used l (Mtr.mkE a b).1 = true) ∧ ((Mtr.mkE a b).2 ≠ v ∧ Mtr.used l (Mtr.mkE a b).2 = true) := by
    unfold Mtr.mkE
    dsimp only
    constructor
    · rcases (by omega : min a b = a ∨ min a b = b) with e | e
      · rw [e]; exact ⟨na, ua⟩
      · rw [e]; exact ⟨nb, ub⟩
    · rcases (by omega : max a b = a ∨ max a b = b) with e | e
      · rw [e]; exact ⟨na, ua⟩
      · rw [e]; exact ⟨nb, ub⟩
  have hLx : Mtr.Lam P (putL (dropL l v) (min a b, max a b)) := (hL.drop3 h2 hd (Mtr.bk_mk ra rb hab) (hIx.perm hq) hends.1 hends.2).perm hq.symm
  refine ⟨hLx, ?_⟩
  have hdx : Mtr.deg (putL (dropL l v) (min a b, max a b)) v = 0 := by
    rw [Mtr.deg_perm hq]
    unfold Mtr.deg
    have h0 := used_zero k2
    unfold Mtr.deg at h0
    rw [List.countP_cons, h0, if_neg]
    unfold Mtr.tch
    simp only [Bool.or_eq_true, beq_iff_eq]
    have := hends.1.1
    have := hends.2.1
    omega
  have hcx : 0 < Mtr.deg (putL (dropL l v) (min a b, max a b)) c := by
    rw [Mtr.deg_perm hq]
    have := used_pos (k1 c nc uc)
    unfold Mtr.deg at this ⊢
    rw [List.countP_cons]
    omega
  have hmem : barM (min a b) (max a b) ∈ putL (dropL l v) (min a b, max a b) := by
    rw [barM_mk, mk_mm]
    exact hq.mem_iff.2 (by simp)
  rw [step_three hgx (by omega) (dif4.2 ⟨hv, by omega, by omega, rc, by omega, by omega, nc.symm, by omega, by omega, by omega⟩) hdx hcx hmem]
  have hy := cut_perm hmem
  generalize hY : cutG (putL (dropL l v) (min a b, max a b)) (idxB (putL (dropL l v) (min a b, max a b)) (barM (min a b) (max a b))).toNat = Y at *
  have hyo : Ord Y := by rw [← hY]; exact cutG_ord _ (isGraphB_ord hgx)
  rw [barM_mk, mk_mm] at hy
  have hyd : Y.Perm (dropL l v) := (hy.symm.trans hq).cons_inv
  have e : putsL Y [barM v (min a b), barM v (max a b), barM v c] = l := by
    refine ord_eq (putsL_ord _ hyo) (isGraphB_ord hg) ?_
    refine (putsL_perm _ _).trans (List.perm_append_comm.trans ?_)
    refine List.Perm.trans ?_ hp.symm
    rw [barM_mk, barM_mk, barM_mk]
    have hK : [Mtr.mkE v (min a b), Mtr.mkE v (max a b), Mtr.mkE v c].Perm [Mtr.mkE v a, Mtr.mkE v b, Mtr.mkE v c] := by
      rcases Int.le_total a b with h | h
      · rw [show min a b = a by omega, show max a b = b by omega]
      · rw [show min a b = b by omega, show max a b = a by omega]
        exact List.Perm.swap _ _ _
    exact hK.append hyd
  rw [e]
theorem three_ends {P : Nat} {l : List BarT} {v : Nat} (hg : isGraphB ((P : Int), l) = true) (hL : Mtr.Lam P l) (hd : (nearL l v).length = 3) : ∃ a b c, nearL l v = [a, b, c] ∧ l.Perm (Mtr.mkE v a :: Mtr.mkE v b :: Mtr.mkE v c :: dropL l v) ∧
    ((0 ≤ a ∧ a < P) ∧ (0 ≤ b ∧ b < P) ∧ (0 ≤ c ∧ c < P)) ∧ (a ≠ v ∧ b ≠ v ∧ c ≠ v) ∧ (a ≠ b ∧ a ≠ c ∧ b ≠ c) ∧ (Mtr.used l a = true ∧ Mtr.used l b = true ∧ Mtr.used l c = true) ∧
    (Mtr.Ind P (Mtr.mkE a b :: dropL l v) ∨ Mtr.Ind P (Mtr.mkE b c :: dropL l v) ∨ Mtr.Ind P (Mtr.mkE c a :: dropL l v)) := by
  have hd' : Mtr.deg l v = 3 := by rw [← near_deg]; exact hd
  obtain ⟨e1, e2, e3, hf⟩ : ∃ e1 e2 e3, l.filter (Mtr.tch v) = [e1, e2, e3] := len_three (by rw [← List.countP_eq_length_filter]; exact hd')
  have h3 := hL.three hf
  have hm : ∀ e ∈ [e1, e2, e3], e ∈ l ∧ Mtr.tch v e = true := fun e he => by rw [← hf] at he; exact List.mem_filter.1 he
  obtain ⟨m1, t1⟩ := hm e1 (by simp)
  obtain ⟨m2, t2⟩ := hm e2 (by simp)
  obtain ⟨m3, t3⟩ := hm e3 (by simp)
  obtain ⟨r1, n1, q1, u1⟩ := Mtr.oth_facts (bkG hg e1 m1) t1
  obtain ⟨r2, n2, q2, u2⟩ := Mtr.oth_facts (bkG hg e2 m2) t2
  obtain ⟨r3, n3, q3, u3⟩ := Mtr.oth_facts (bkG hg e3 m3) t3
  have hn : nearL l v = [Mtr.oth e1 v, Mtr.oth e2 v, Mtr.oth e3 v] := by
    unfold nearL
    rw [show l.filter (hasV v) = l.filter (Mtr.tch v) from rfl, hf]; rfl
  have hp : l.Perm (e1 :: e2 :: e3 :: dropL l v) := by
    have := (List.filter_append_perm (Mtr.tch v) l).symm
    rw [hf] at this
    exact this
  have hc1 := near_le hL.ind hL.bk n1
  have hc2 := near_le hL.ind hL.bk n2
  rw [hf] at hc1 hc2
  generalize Mtr.oth e1 v = a at *
  generalize Mtr.oth e2 v = b at *
  generalize Mtr.oth e3 v = c at *
  rw [List.countP_cons, List.countP_cons, List.countP_cons, List.countP_nil] at hc1 hc2
  refine ⟨a, b, c, hn, by rw [← q1, ← q2, ← q3]; exact hp, ⟨r1, r2, r3⟩, ⟨n1, n2, n3⟩, ⟨?_, ?_, ?_⟩, ⟨used_of m1 u1, used_of m2 u2, used_of m3 u3⟩, h3⟩
  · rintro rfl; rw [if_pos u1, if_pos u2] at hc1; omega
  · rintro rfl; rw [if_pos u1, if_pos u3] at hc1; omega
  · rintro rfl; rw [if_pos u2, if_pos u3] at hc2; omega
theorem undX_eq {l : List BarT} {v : Nat} {a b c : Int} (hn : nearL l v = [a, b, c]) : (undX l v 0 = putL (dropL l v) (min a b, max a b) ∧ undT l v 0 = (2, (v : Int), min a b, max a b, c)) ∧ (undX l v 1 = putL (dropL l v) (min b c, max b c) ∧ undT l v 1 = (2, (v : Int), min b c, max b c, a)) ∧ (undX l v 2 = putL (dropL l v) (min c a, max c a) ∧ undT l v 2 = (2, (v : Int), min c a, max c a, b)) := by
  unfold undX undT undA
  rw [hn]
  exact ⟨⟨rfl, rfl⟩, ⟨rfl, rfl⟩, rfl, rfl⟩
theorem undo_ok {P : Nat} {l : List BarT} (hg : isGraphB ((P : Int), l) = true) (hL : Mtr.Lam P l) (h2 : 2 ≤ l.length) (hl : l.length ≤ 22) : ∃ x s, undoL P l = some (x, s) ∧ isGraphB ((P : Int), x) = true ∧ Mtr.Lam P x ∧ stepF ((P : Int), x) s = (((P : Int), l), true) := by
  have fin : ∀ x s, undoL P l = some (x, s) → (Mtr.Lam P x ∧ stepF ((P : Int), x) s = (((P : Int), l), true)) → ∃ x s, undoL P l = some (x, s) ∧ isGraphB ((P : Int), x) = true ∧ Mtr.Lam P x ∧ stepF ((P : Int), x) s = (((P : Int), l), true) := fun x s h1 h2 => ⟨x, s, h1, undoL_graph hg h1, h2⟩
  cases h1 : firstS (und1 l) P with
  | some r =>
    obtain ⟨v, hv, hr⟩ := firstS_some _ h1
    have hd : (nearL l v).length = 2 := by
      unfold und1 at hr
      split at hr
      · assumption
      · cases hr
    have hr2 := hr
    unfold und1 at hr2
    rw [if_pos hd] at hr2
    cases hr2
    refine fin _ _ ?_ (undo_two hv hg hL h2 hl hd)
    unfold undoL
    rw [Int.toNat_natCast, h1]
  | none =>
    have hall := firstS_all _ h1
    obtain ⟨v0, hv0, hd0⟩ := hL.small h2
    have hd3 : (nearL l v0).length = 3 := by
      rw [near_deg]
      rcases hd0 with h | h
      · have := hall v0 hv0
        unfold und1 at this
        rw [if_pos (by rw [near_deg]; exact h)] at this
        cases this
      · exact h
    have hu : undoL P l = firstS (und2 P l) P := by
      unfold undoL
      rw [Int.toNat_natCast, h1]
    cases h3 : firstS (und2 P l) P with
    | none =>
      exfalso
      have hno := firstS_all _ h3 v0 hv0
      unfold und2 at hno
      rw [if_pos hd3] at hno
      have hk := firstS_all _ hno
      obtain ⟨a, b, c, hn, hp, ⟨ra, rb, rc⟩, ⟨na, nb, nc⟩, ⟨hab, hac, hbc⟩, ⟨ua, ub, uc⟩, hI⟩ := three_ends hg hL hd3
      obtain ⟨⟨x0, -⟩, ⟨x1, -⟩, ⟨x2, -⟩⟩ := undX_eq hn
      have hlen := hp.length_eq
      simp only [List.length_cons] at hlen
      have hgd := dropL_graph (v0 : Int) hg
      have key : ∀ y z : Int, (0 ≤ y ∧ y < P) → (0 ≤ z ∧ z < P) → y ≠ z → Mtr.Ind P (Mtr.mkE y z :: dropL l v0) → sparseB ((P : Int), putL (dropL l v0) (min y z, max y z)) 2 3 = true := fun y z hy hz hyz hi => by
        have hgp : isGraphB ((P : Int), putL (dropL l v0) (min y z, max y z)) = true := graph_put hgd (by omega) (by dsimp only; omega)
        exact (sparse_ind hgp).2 (hi.perm (putL_perm _ _).symm)
      have no : ∀ k, k < 3 → sparseB ((P : Int), undX l v0 k) 2 3 = false := fun k hk3 => by
        have := hk k hk3
        unfold und3 at this
        split at this
        · cases this
        · rename_i h; exact Bool.eq_false_iff.2 h
      rcases hI with hI | hI | hI
      · have h4 := no 0 (by decide); rw [x0, key a b ra rb hab hI] at h4; cases h4
      · have h4 := no 1 (by decide); rw [x1, key b c rb rc hbc hI] at h4; cases h4
      · have h4 := no 2 (by decide); rw [x2, key c a rc ra (Ne.symm hac) hI] at h4; cases h4
    | some r =>
      obtain ⟨v, hv, hr⟩ := firstS_some _ h3
      obtain ⟨hd, k, hk, hrk⟩ := und2_some hr
      obtain ⟨a, b, c, hn, hp, ⟨ra, rb, rc⟩, ⟨na, nb, nc⟩, ⟨hab, hac, hbc⟩, ⟨ua, ub, uc⟩, -⟩ := three_ends hg hL hd
      obtain ⟨⟨x0, y0⟩, ⟨x1, y1⟩, ⟨x2, y2⟩⟩ := undX_eq hn
      have hvr : 0 ≤ (v : Int) ∧ (v : Int) < P := by omega
      have hdg : Mtr.deg l v = 3 := by rw [← near_deg]; exact hd
      unfold und3 at hrk
      split at hrk
      · rename_i hS
        cases hrk
        refine fin _ _ (hu.trans h3) ?_
        obtain rfl | rfl | rfl : k = 0 ∨ k = 1 ∨ k = 2 := by omega
        · rw [x0] at hS ⊢; rw [y0]
          exact undo_three hg hL h2 hl hdg hvr hp ra rb rc na nb nc hab hac hbc ua ub uc hS
        · rw [x1] at hS ⊢; rw [y1]
          refine undo_three hg hL h2 hl hdg hvr (hp.trans ?_) rb rc ra nb nc na hbc (Ne.symm hab) (Ne.symm hac) ub uc ua hS
          exact (List.Perm.swap _ _ _).trans ((List.Perm.swap _ _ _).cons _)
        · rw [x2] at hS ⊢; rw [y2]
          refine undo_three hg hL h2 hl hdg hvr (hp.trans ?_) rc ra rb nc na nb (Ne.symm hac) (Ne.symm hbc) hab uc ua ub hS
          exact ((List.Perm.swap _ _ _).cons _).trans (List.Perm.swap _ _ _)
      · cases hrk
end Go.Proofs.YtfbmpkdjhhcnpaaGreat

namespace Go.Proofs.YtfbmpkdjhhcnpaaGreat
open Go.RowKit Mtr
set_option maxRecDepth 100000
set_option linter.unusedVariables false
set_option linter.unusedSimpArgs false
theorem bldTo_pre {n : Int} {l r : List StepT} : ∀ k, k ≤ l.length → bldTo n (l ++ r) k = bldTo n l k
  | 0, _ => rfl
  | k + 1, h => by
    show (match bldTo n (l ++ r) k, (l ++ r)[k]? with
      | some g, some s => if (stepF g s).2 = true then some (stepF g s).1 else none
      | _, _ => none) = (match bldTo n l k, l[k]? with
      | some g, some s => if (stepF g s).2 = true then some (stepF g s).1 else none
      | _, _ => none)
    rw [bldTo_pre k (by omega), List.getElem?_append_left (by omega)]
theorem fnd_ok {P : Nat} : ∀ (f : Nat) (l : List BarT) (out : List StepT), isGraphB ((P : Int), l) = true → Mtr.Lam P l → 1 ≤ l.length → l.length ≤ 22 → l.length ≤ f → ∃ m, fndL P f l out = some (m ++ out) ∧ bldTo P m m.length = some ((P : Int), l) ∧ 2 * m.length = l.length + 1
  | 0, l, out, _, _, h1, _, h2 => by omega
  | f + 1, l, out, hg, hL, h1, hl, hf => by
    by_cases h2 : 1 < l.length
    · obtain ⟨x, s, hu, hgx, hLx, hs⟩ := undo_ok hg hL h2 hl
      have hlen := undoL_len hu
      have hc := hLx.cnt
      obtain ⟨m, e1, e2, e3⟩ := fnd_ok f x (s :: out) hgx hLx (by omega) (by omega) (by omega)
      refine ⟨m ++ [s], ?_, ?_, by rw [List.length_append, List.length_singleton]; omega⟩
      · show (if 1 < l.length then _ else _) = _
        rw [if_pos h2, hu]
        dsimp only
        rw [e1]
        simp
      · rw [List.length_append, List.length_singleton]
        have e4 : bldTo P (m ++ [s]) m.length = some ((P : Int), x) := by rw [bldTo_pre _ (Nat.le_refl _)]; exact e2
        have e5 : (m ++ [s])[m.length]? = some s := by simp
        rw [bldTo_yes e4 e5 (by rw [hs]), hs]
    · obtain ⟨e, rfl⟩ : ∃ e, l = [e] := List.length_eq_one_iff.1 (by omega)
      have hb := bkG hg e (by simp)
      unfold Mtr.Bk at hb
      have hbd := isGraphB_bd hg
      refine ⟨[(0, 0, (gB [e] 0).1, (gB [e] 0).2, 0)], ?_, ?_, rfl⟩
      · show (if 1 < [e].length then _ else _) = _
        rw [if_neg h2]
        rfl
      · have hs := step_one (P := P) (a := e.1) (b := e.2) (by omega) (dif2.2 ⟨by omega, by omega, by omega⟩)
        have e4 : barM e.1 e.2 = e := by unfold barM; exact Prod.ext (by dsimp only; omega) (by dsimp only; omega)
        rw [e4] at hs
        show bldTo P [(0, 0, e.1, e.2, 0)] 1 = _
        rw [bldTo_yes (k := 0) (g := ((P : Int), [])) (s := (0, 0, e.1, e.2, 0)) rfl rfl (by rw [hs]), hs]
theorem full_idx {E : Nat} {F : List Int} (h2 : ∀ j : Nat, j < E → 0 ≤ gI F j ∧ gI F j < E) (h3 : ∀ j : Nat, j + 1 < E → gI F j < gI F (j + 1)) : ∀ j : Nat, j < E → gI F j = j := by
  have lo : ∀ j : Nat, j < E → (j : Int) ≤ gI F j := by
    intro j
    induction j with
    | zero => intro h; have := (h2 0 h).1; omega
    | succ j ih =>
      intro h
      have h4 := ih (by omega)
      have h5 := h3 j h
      omega
  have hi : ∀ d : Nat, d < E → gI F (E - 1 - d) ≤ ((E - 1 - d : Nat) : Int) := by
    intro d
    induction d with
    | zero =>
      intro h
      have := (h2 (E - 1 - 0) (by omega)).2
      omega
    | succ d ih =>
      intro h
      have h4 := ih (by omega)
      have h5 := h3 (E - 1 - (d + 1)) (by omega)
      rw [show E - 1 - (d + 1) + 1 = E - 1 - d by omega] at h5
      omega
  intro j hj
  have h6 := lo j hj
  have h7 := hi (E - 1 - j) (by omega)
  rw [show E - 1 - (E - 1 - j) = j by omega] at h7
  omega
theorem plB_full {n : Nat} {k : Int} {bars : List BarT} {S : PebT} (h : Inv n k bars bars.length S) (hl : S.2.2.length = bars.length) : plB bars S = bars := by
  have hF := full_idx (E := bars.length) (F := S.2.2) (fun j hj => by
    obtain ⟨e, he, he2, _⟩ := h.pl j (by omega)
    omega) fun j hj => h.inc j (by omega)
  refine List.ext_getElem? fun j => ?_
  unfold plB
  rw [List.getElem?_map]
  by_cases hj : j < bars.length
  · have h1 := hF j hj
    unfold gI at h1
    rw [List.getElem?_eq_getElem (show j < S.2.2.length by omega), Option.getD_some] at h1
    rw [List.getElem?_eq_getElem (show j < S.2.2.length by omega), h1, List.getElem?_eq_getElem hj]
    show some (gB bars (j : Int).toNat) = _
    rw [Int.toNat_natCast]
    unfold gB
    rw [List.getElem?_eq_getElem hj, Option.getD_some]
  · rw [List.getElem?_eq_none (by omega), List.getElem?_eq_none (by omega)]
    rfl
theorem min_lam {P : Nat} {l : List BarT} (h : minB ((P : Int), l) = true) (h0 : 0 < l.length) : isGraphB ((P : Int), l) = true ∧ Mtr.Lam P l ∧ l.length + 3 = 2 * P := by
  obtain ⟨hg, hlen⟩ := minB_len h
  have hlen2 : (l.length : Int) = 2 * P - 3 := by rcases hlen with h | h <;> omega
  have hbd := isGraphB_bd hg
  have hb : Bok P l := fun e he => by
    have := isGraphB_bar hg (List.getElem?_eq_getElem he)
    unfold gB
    rw [List.getElem?_eq_getElem he, Option.getD_some]
    omega
  have hI : Inv P 2 l l.length (playP P l 2 3) := playTo_ok (n := P) (k := 2) (l := 3) (bars := l) (by decide) hb (by omega) (by decide) l.length (Nat.le_refl _)
  have hr : (playP P l 2 3).2.2.length = l.length := by
    unfold minB at h
    simp only [Bool.and_eq_true, beq_iff_eq] at h
    have h2 := h.2
    unfold rankG at h2
    rw [if_pos (by unfold runOk; rw [hg]; decide)] at h2
    simp only [Int.toNat_natCast] at h2
    omega
  have hi : Mtr.Ind P l := by
    have := (play_ind hb (by omega) l.length (Nat.le_refl _)).1
    have e := plB_full hI hr
    unfold playP at e
    rw [e] at this
    exact this
  exact ⟨hg, Mtr.Lam.of hi (bkG hg) h0 (by omega), by omega⟩
theorem find_ok {p : Int} {l : List BarT} (h : minB (p, l) = true) (h0 : 0 < l.length) : ∃ m, findA p l = (m, true) ∧ bldF p m = ((p, l), true) ∧ (m.length : Int) = p - 1 := by
  have hbd := isGraphB_bd (minB_len h).1
  obtain ⟨P, rfl⟩ : ∃ P : Nat, p = P := ⟨p.toNat, by omega⟩
  obtain ⟨hg, hL, hc⟩ := min_lam h h0
  obtain ⟨m, e1, e2, e3⟩ := fnd_ok l.length l [] hg hL h0 (by omega) (Nat.le_refl _)
  rw [List.append_nil] at e1
  refine ⟨m, ?_, ?_, by omega⟩
  · unfold findA
    rw [if_pos (by rw [h, Bool.true_and, Bool.not_eq_true', beq_eq_false_iff_ne]; omega), e1]
  · unfold bldF
    rw [if_pos (by simp [inB]; omega), e2]
theorem fsB_iff (g : GraphT) : (findA g.1 g.2).2 = (minB g && decide (0 < g.2.length)) := by
  obtain ⟨p, l⟩ := g
  by_cases h : minB (p, l) = true ∧ 0 < l.length
  · obtain ⟨m, e, -⟩ := find_ok h.1 h.2
    dsimp only
    rw [e, h.1, decide_eq_true h.2]; rfl
  · have e : (minB (p, l) && !(l.length == 0)) = false := by
      rw [Bool.eq_false_iff]
      intro hc
      simp only [Bool.and_eq_true, Bool.not_eq_true', beq_eq_false_iff_ne] at hc
      exact h ⟨hc.1, by omega⟩
    have e2 : (minB (p, l) && decide (0 < l.length)) = false := by
      rw [Bool.eq_false_iff]
      intro hc
      simp only [Bool.and_eq_true, decide_eq_true_eq] at hc
      exact h hc
    dsimp only
    rw [e2]
    unfold findA
    rw [if_neg (by rw [e]; simp)]
theorem bldTo_keep {P : Nat} {l : List StepT} (hP : 1 ≤ P ∧ P ≤ 8) : ∀ k g, bldTo P l k = some g → ∃ m, g = ((P : Int), m) ∧ isGraphB ((P : Int), m) = true ∧ Mtr.Ind P m ∧ (k = 0 → m = []) ∧ (0 < k → m.length + 1 = 2 * k)
  | 0, g, h => by
    cases h
    exact ⟨[], rfl, isGraphB_of (by simp [inB]; omega) (by simp) (by simp) List.Pairwise.nil, Mtr.Ind.nil P, fun _ => rfl, fun h => absurd h (by omega)⟩
  | k + 1, g, h => by
    have h' : (match bldTo P l k, l[k]? with
      | some g, some s => if (stepF g s).2 = true then some (stepF g s).1 else none
      | _, _ => none) = some g := h
    cases e1 : bldTo P l k with
    | none => rw [e1] at h'; cases h'
    | some g0 =>
      cases e2 : l[k]? with
      | none => rw [e1, e2] at h'; cases h'
      | some s =>
        rw [e1, e2] at h'
        dsimp only at h'
        split at h'
        · rename_i hs
          obtain ⟨m, rfl, hg, hI, hz, hc⟩ := bldTo_keep hP k g0 e1
          have h3 : stepF ((P : Int), m) s = (g, true) := Prod.ext (Option.some.inj h') hs
          obtain ⟨m', rfl, hg', hI', k1, k2⟩ := step_keep h3 hI
          refine ⟨m', rfl, hg', hI', fun h => absurd h (by omega), fun _ => ?_⟩
          by_cases hm : m = []
          · have h5 := k1 hm
            rcases Nat.eq_zero_or_pos k with h4 | h4
            · omega
            · have h6 := hc h4
              rw [hm] at h6
              simp at h6
              omega
          · have h5 := k2 hm
            rcases Nat.eq_zero_or_pos k with h4 | h4
            · exact absurd (hz h4) hm
            · have := hc h4; omega
        · cases h'
theorem bldF_keep {n : Int} {l : List StepT} (h : (bldF n l).2 = true) : sparseB (bldF n l).1 2 3 = true ∧ (0 < l.length → (((bldF n l).1.2.length : Nat) : Int) = 2 * l.length - 1) := by
  unfold bldF at h ⊢
  split at h
  · rename_i hn
    rw [if_pos hn]
    have hn2 : 1 ≤ n ∧ n ≤ 8 := by simpa [inB] using hn
    obtain ⟨P, rfl⟩ : ∃ P : Nat, n = P := ⟨n.toNat, by omega⟩
    cases e : bldTo P l l.length with
    | none => rw [e] at h; cases h
    | some g =>
      obtain ⟨m, rfl, hg, hI, hz, hc⟩ := bldTo_keep (by omega) _ _ e
      refine ⟨(sparse_ind hg).2 hI, fun h0 => ?_⟩
      have := hc h0
      dsimp only
      omega
  · cases h
theorem stepF_sparse {g : GraphT} {s : StepT} (h : (stepF g s).2 = true) (hS : sparseB g 2 3 = true) : sparseB (stepF g s).1 2 3 = true := by
  obtain ⟨p, l⟩ := g
  have hg := sparseB_graph hS
  have hbd := isGraphB_bd hg
  obtain ⟨P, rfl⟩ : ∃ P : Nat, p = P := ⟨p.toNat, by omega⟩
  obtain ⟨m, e, hg', hI', -⟩ := step_keep (g := (stepF ((P : Int), l) s).1) (Prod.ext rfl h) ((sparse_ind hg).1 hS)
  rw [e]
  exact (sparse_ind hg').2 hI'
def OkSt (x : StepT) : Prop := (-9223372036854775808 ≤ x.1 ∧ x.1 ≤ 9223372036854775807) ∧ (-9223372036854775808 ≤ x.2.1 ∧ x.2.1 ≤ 9223372036854775807) ∧ (-9223372036854775808 ≤ x.2.2.1 ∧ x.2.2.1 ≤ 9223372036854775807) ∧ (-9223372036854775808 ≤ x.2.2.2.1 ∧ x.2.2.2.1 ≤ 9223372036854775807) ∧ (-9223372036854775808 ≤ x.2.2.2.2 ∧ x.2.2.2.2 ≤ 9223372036854775807)
theorem step_bd {g : GraphT} {s : StepT} (h : (stepF g s).2 = true) : OkSt s := by
  obtain ⟨p, l⟩ := g
  obtain ⟨kd, pt, a, b, c⟩ := s
  unfold stepF at h
  split at h
  · rename_i hc
    simp only [Bool.and_eq_true, decide_eq_true_eq] at hc
    have hp := (isGraphB_bd hc.1).1
    unfold OkSt
    dsimp only at h ⊢
    split at h
    · rename_i h0
      unfold cnd0 at h0
      simp only [Bool.and_eq_true, beq_iff_eq] at h0
      have := dif2.1 h0.2.2.2.2
      omega
    · split at h
      · rename_i h1
        unfold cnd1 at h1
        simp only [Bool.and_eq_true, beq_iff_eq] at h1
        have := dif3.1 h1.2.2.1
        omega
      · split at h
        · rename_i h2
          unfold cnd2 at h2
          simp only [Bool.and_eq_true, beq_iff_eq] at h2
          have := dif4.1 h2.2.1
          omega
        · cases h
  · cases h
theorem bldTo_mem {n : Int} {l : List StepT} : ∀ k g, bldTo n l k = some g → ∀ j, j < k → ∃ s, l[j]? = some s ∧ OkSt s
  | 0, _, _, j, hj => absurd hj (Nat.not_lt_zero _)
  | k + 1, g, h, j, hj => by
    have h' : (match bldTo n l k, l[k]? with
      | some g, some s => if (stepF g s).2 = true then some (stepF g s).1 else none
      | _, _ => none) = some g := h
    cases e1 : bldTo n l k with
    | none => rw [e1] at h'; cases h'
    | some g0 =>
      cases e2 : l[k]? with
      | none => rw [e1, e2] at h'; cases h'
      | some s =>
        rw [e1, e2] at h'
        dsimp only at h'
        split at h'
        · rename_i hs
          by_cases e : j = k
          · subst e; exact ⟨s, e2, step_bd hs⟩
          · exact bldTo_mem k g0 e1 j (by omega)
        · cases h'
theorem fs_no {g : GraphT} (h : (minB g && decide (0 < g.2.length)) = false) : fsA g = [] ∧ fsB g = false := by
  have h2 := fsB_iff g
  rw [h] at h2
  unfold fsA fsB
  refine ⟨?_, h2⟩
  unfold findA at h2 ⊢
  split
  · rename_i hc
    rw [if_pos hc] at h2
    cases hf : fndL g.1 g.2.length g.2 [] with
    | none => rfl
    | some s => rw [hf] at h2; cases h2
  · rfl
theorem fs_yes {g : GraphT} (h : (minB g && decide (0 < g.2.length)) = true) : fsB g = true ∧ bldF g.1 (fsA g) = (g, true) ∧ ((fsA g).length : Int) = g.1 - 1 := by
  obtain ⟨p, l⟩ := g
  simp only [Bool.and_eq_true, decide_eq_true_eq] at h
  obtain ⟨m, e1, e2, e3⟩ := find_ok h.1 h.2
  unfold fsA fsB
  dsimp only
  rw [e1]
  exact ⟨rfl, e2, e3⟩
theorem fsA_ok (g : GraphT) : OkSteps (fsA g) := by
  have hlen := fsA_len g
  cases h : (minB g && decide (0 < g.2.length))
  · rw [(fs_no h).1]
    exact ⟨by simp, by simp⟩
  · obtain ⟨-, h2, -⟩ := fs_yes h
    refine ⟨by omega, fun x hx => ?_⟩
    obtain ⟨j, hj⟩ := List.getElem?_of_mem hx
    unfold bldF at h2
    split at h2
    · cases e : bldTo g.1 (fsA g) (fsA g).length with
      | none => rw [e] at h2; cases h2
      | some g' =>
        obtain ⟨s, e1, e2⟩ := bldTo_mem _ _ e j (lt_of_getElem? hj)
        rw [hj] at e1
        cases e1
        exact e2
    · cases h2
set_option maxHeartbeats 4000000 in
theorem specEqG_any (W : World) (p p' : Int) (a a' : Option Addr) (cap cap' : Nat) (l l' : List BarT) (h : BarsAt W a l.length l) (h' : BarsAt W a' l'.length l') (hn : l.length ≤ 1099511627776) :
    Calls Tryz.prog 35 #[.agg #[.int .i64 p, .slice a l.length cap], .agg #[.int .i64 p', .slice a' l'.length cap']] W fun e w' => e = .returned (.bool (p == p' && decide (l = l'))) ∧ Below W.heap.size W w' := by
  have hgd := guardBar
  have HI := Lib.hid h
  have HI' := Lib.hid h'
  clear h h'
  generalize hL : l.length = n at *
  generalize hL' : l'.length = n' at *
  have HL := Lib.hid hL
  have HL' := Lib.hid hL'
  clear hL hL'
  have HB0 : Hid (Below W.heap.size W ((W.alloc (.cells #[.int .i64 p, .slice a n cap] 26)).alloc (.cells #[.int .i64 p', .slice a' n' cap'] 26))) := ((Below.refl _ W).alloc (Nat.le_refl _) _).alloc (by simp) _
  by_cases hp : p = p'
  · subst hp
    by_cases hnn : n = n'
    · subst hnn
      go_enter Tryz.func35, Tryz.ntmps35
      go_wp2_with fail
      obtain ⟨W0, hW0⟩ : ∃ W0, W0 = (W.alloc (.cells #[.int .i64 p, .slice a n cap] 26)).alloc (.cells #[.int .i64 p, .slice a' n cap'] 26) := ⟨_, rfl⟩
      rw [← hW0]
      have hs0 : W0.heap.size = W.heap.size + 1 + 1 := by rw [hW0]; simp
      have g0 : W0.cell? ⟨W.heap.size, 1, none⟩ = some (.slice a n cap) := by rw [hW0]; simp [World.cell?_alloc_new]
      have g1 : W0.cell? ⟨W.heap.size + 1, 1, none⟩ = some (.slice a' n cap') := by rw [hW0]; simp [World.cell?_alloc_new]
      rw [← hW0] at HB0
      have HC := Lib.hid (HI.out.below HB0.out).2
      have HC' := Lib.hid (HI'.out.below HB0.out).2
      have hs1 : W.heap.size < W0.heap.size := by omega
      have hs2 : W.heap.size + 1 < W0.heap.size := by omega
      clear hs0 hW0
      go_loopw [5] (fun i wr => ∃ k : Nat, k ≤ n ∧ i = .int .i64 k ∧ Below W0.heap.size W0 wr ∧ l.take k = l'.take k) (fun i _ => n - (intOf i).toNat)
      case atStart => exact ⟨0, Nat.zero_le _, rfl, Below.refl _ _, rfl⟩
      case round =>
        obtain ⟨k, hk, rfl, hb, hpp⟩ := hrel
        have HP := Lib.hid hpp
        clear hpp
        have g0' := (hb.cell (p := ⟨W.heap.size, 1, none⟩) hs1).trans g0
        have g1' := (hb.cell (p := ⟨W.heap.size + 1, 1, none⟩) hs2).trans g1
        have hbz := hb.size
        have hq1 : W.heap.size < wr.heap.size := by omega
        have hq2 : W.heap.size + 1 < wr.heap.size := by omega
        by_cases hlt : k < n
        · obtain ⟨b, off, ⟨x1, x2⟩, rfl, hbl, hx, hc0, hc1⟩ := HC.out k hlt
          obtain ⟨b', off', ⟨y1, y2⟩, rfl, hbl', hy, hy0, hy1⟩ := HC'.out k hlt
          dsimp only at hc0 hc1 hy0 hy1
          have HX := Lib.hid hx
          have HY := Lib.hid hy
          have d0 := (hb.cell (p := ⟨b, off + k * 2, none⟩) hbl).trans hc0
          have d1 := (hb.cell (p := ⟨b, off + k * 2 + 1, none⟩) hbl).trans hc1
          have t0 := (hb.cell (p := ⟨b', off' + k * 2, none⟩) hbl').trans hy0
          have t1 := (hb.cell (p := ⟨b', off' + k * 2 + 1, none⟩) hbl').trans hy1
          clear hx hy hc0 hc1 hy0 hy1 g0 g1
          by_cases hxx : (((x1, x2) : BarT) = (y1, y2))
          · have HXX := Lib.hid hxx
            have hcmp := fun w => neqBar_t hxx w
            clear hxx
            go_wp2_with fail
            go_quiet (fail)
            go_wp2_with fail
            go_roundw
            case rel => exact ⟨k + 1, by omega, by go_num, by first | exact below_drewN hb _ | exact hb, by rw [take_succ_of HX.out, take_succ_of HY.out, HP.out, HXX.out]⟩
            case measure => simp [intOf]; omega
          · have HXX := Lib.hid hxx
            have hcmp := fun w => neqBar_f hxx w
            clear hxx
            have hll : ¬ l = l' := fun e => HXX.out (Option.some.inj (by rw [← HX.out, ← HY.out, e]))
            have HF := Lib.hid (ret_bool (show (p == p && decide (l = l')) = false by simp [hll]))
            clear hll
            go_wp2_with fail
            go_quiet (fail)
            go_wp2_with fail
            go_ret
            exact ⟨HF.out.symm, HB0.out.trans ((below_drewN hb _).mono (by omega))⟩
        · obtain rfl : k = n := by omega
          have h1 := HP.out
          rw [List.take_of_length_le (by have := HL.out; omega), List.take_of_length_le (by have := HL'.out; omega)] at h1
          have HF := Lib.hid (ret_bool (show (p == p && decide (l = l')) = true by simp [h1]))
          clear h1
          go_wp2_with fail
          go_ret
          exact ⟨HF.out.symm, HB0.out.trans (hb.mono (by omega))⟩

    · have hne : (n != n') = true := by simpa using hnn
      have hne2 : ((n : Int) != (n' : Int)) = true := by simp; omega
      have HF := Lib.hid (ret_bool (show (p == p && decide (l = l')) = false by
        have h1 : ¬ l = l' := fun e => hnn (by rw [← HL.out, ← HL'.out, e])
        simp [h1]))
      go_enter Tryz.func35, Tryz.ntmps35
      go_wp2_with fail
      go_ret
      exact ⟨HF.out.symm, HB0.out⟩
  · have hpp : (p == p') = false := by simpa using hp
    have hpp2 : (p != p') = true := by simpa using hp
    have HF := Lib.hid (ret_bool (show (p == p' && decide (l = l')) = false by simp [hpp]))
    go_enter Tryz.func35, Tryz.ntmps35
    go_wp2_with fail
    go_ret
    exact ⟨HF.out.symm, HB0.out⟩

end Go.Proofs.YtfbmpkdjhhcnpaaGreat

