/- IsForest and IsSpanningTree of the program and of the reference. No condition but sizes. -/
import Derived.Test.YtfdhbbhfilkafaaFog
import Derived.Test.YtfdhbbhfilkafaaGrC
import Derived.Deep.RegionHeld3
namespace Go.Proofs.Ytfdhbbhfilkafaa
open Go.RowKit
set_option maxRecDepth 100000
set_option linter.unusedVariables false
set_option linter.unusedSimpArgs false

theorem filt_succ : ∀ {s : List Int}, s.Pairwise (· < ·) → ∀ k : Int, s.filter (fun e => decide (e < k + 1)) = s.filter (fun e => decide (e < k)) ++ (if k ∈ s then [k] else [])
  | [], _, k => by simp
  | x :: t, hs, k => by
    obtain ⟨h1, h2⟩ := List.pairwise_cons.1 hs
    have ih := filt_succ h2 k
    by_cases e1 : x < k
    · rw [List.filter_cons_of_pos (by simp; omega), List.filter_cons_of_pos (by simp; omega), ih, List.cons_append]
      have : (k ∈ x :: t) = (k ∈ t) := by
        rw [List.mem_cons]; simp; intro e; omega
      simp only [this]
    · have hf : ∀ m : Int, m ≤ k + 1 → t.filter (fun e => decide (e < m)) = [] ∨ x < k := fun m hm => by
        by_cases e2 : x < k
        · exact .inr e2
        · left
          rw [List.filter_eq_nil_iff]
          intro e he
          have := h1 e he
          simp; omega
      have f1 := (hf (k + 1) (by omega)).resolve_right e1
      have f2 := (hf k (by omega)).resolve_right e1
      by_cases e2 : x = k
      · subst e2
        rw [List.filter_cons_of_pos (by simp; omega), List.filter_cons_of_neg (by simp), f1, f2]
        simp
      · rw [List.filter_cons_of_neg (by simp; omega), List.filter_cons_of_neg (by simp; omega), f1, f2]
        have : k ∉ x :: t := by
          rw [List.mem_cons]
          rintro (h | h)
          · omega
          · have := h1 k h; omega
        rw [if_neg this]; rfl
theorem setB_sorted {p : Int} {l : List BarT} {s : List Int} (h : setB (p, l) s = true) : s.Pairwise (· < ·) := by
  simp only [setB, Bool.and_eq_true] at h
  have key : ∀ i x y, s[i]? = some x → s[i + 1]? = some y → x < y := fun i x y hx hy => by
    have := List.all_eq_true.1 h.1 (i + 1) (List.mem_range.2 (lt_of_getElem? hy))
    simp only [setAt, Nat.add_sub_cancel, hx, hy, Option.getD_some, Bool.and_eq_true, Bool.or_eq_true, decide_eq_true_eq] at this
    rcases this.2 with h | h
    · simp at h
    · exact h
  have lt : ∀ d i x y, s[i]? = some x → s[i + d + 1]? = some y → x < y := by
    intro d
    induction d with
    | zero => exact key
    | succ d ih =>
      intro i x y hx hy
      have hl := lt_of_getElem? hy
      obtain ⟨z, hz⟩ : ∃ z, s[i + d + 1]? = some z := ⟨_, List.getElem?_eq_getElem (by omega)⟩
      have h1 := ih i x z hx hz
      have h2 := key _ z y hz hy
      omega
  refine List.pairwise_iff_getElem.2 fun i j hi hj hij => ?_
  exact lt (j - i - 1) i _ _ (List.getElem?_eq_getElem hi) (by rw [show i + (j - i - 1) + 1 = j by omega]; exact List.getElem?_eq_getElem hj)
theorem keepTo_filter {l : List BarT} {s : List Int} (hs : s.Pairwise (· < ·)) (hr : ∀ x ∈ s, 0 ≤ x ∧ x < l.length) : ∀ k, k ≤ l.length → keepTo l s k = (s.filter fun e => decide (e < (k : Int))).map fun e => l[e.toNat]?.getD (0, 0)
  | 0, _ => by
    have : (s.filter fun e => decide (e < ((0 : Nat) : Int))) = [] := by
      rw [List.filter_eq_nil_iff]
      intro e he
      have := hr e he
      simp; omega
    rw [this]; rfl
  | k + 1, hk => by
    rw [show ((k + 1 : Nat) : Int) = (k : Int) + 1 by omega, filt_succ hs, List.map_append, ← keepTo_filter hs hr k (by omega)]
    show keepTo l s k ++ (if (k : Int) ∈ s then (l[k]?).toList else []) = _
    congr 1
    split
    · simp only [List.map_cons, List.map_nil, Int.toNat_natCast]
      rw [List.getElem?_eq_getElem (show k < l.length by omega)]
      rfl
    · rfl
theorem keepL_set {p : Int} {l : List BarT} {s : List Int} (h : setB (p, l) s = true) : keepL l s = s.map fun e => l[e.toNat]?.getD (0, 0) := by
  have hr : ∀ x ∈ s, 0 ≤ x ∧ x < l.length := fun x hx => by
    obtain ⟨k, hk⟩ := List.getElem?_of_mem hx
    exact (setB_facts h).2 k x hk
  unfold keepL
  rw [keepTo_filter (setB_sorted h) hr _ (Nat.le_refl _)]
  congr 1
  rw [List.filter_eq_self]
  intro e he
  have := hr e he
  simp; omega
theorem keepL_E {p : Int} {l : List BarT} {s : List Int} (h : setB (p, l) s = true) : (keepL l s).map eN = setE l s := by
  rw [keepL_set h, List.map_map]; rfl
theorem setB_ends {P : Nat} {l : List BarT} {s : List Int} (h : setB ((P : Int), l) s = true) : ∀ x ∈ keepL l s, (0 ≤ x.1 ∧ x.1 < P) ∧ (0 ≤ x.2 ∧ x.2 < P) := by
  intro x hx
  rw [keepL_set h] at hx
  obtain ⟨e, he, rfl⟩ := List.mem_map.1 hx
  obtain ⟨k, hk⟩ := List.getElem?_of_mem he
  obtain ⟨hg, hf⟩ := setB_facts h
  obtain ⟨h1, h2⟩ := hf k e hk
  have hl : e.toNat < l.length := by omega
  obtain ⟨m1, m2, m3⟩ := isGraphB_bar hg (List.getElem?_eq_getElem hl)
  rw [List.getElem?_eq_getElem hl]
  simp only [Option.getD_some]
  omega
theorem setE_inR {P : Nat} {l : List BarT} {s : List Int} (h : setB ((P : Int), l) s = true) : Fo.InR P (setE l s) := by
  intro e he
  rw [← keepL_E h] at he
  obtain ⟨x, hx, rfl⟩ := List.mem_map.1 he
  have := setB_ends h x hx
  simp only [eN]
  omega
def frstB (g : GraphT) (s : List Int) : Bool := setB g s && Fo.forestB (setE g.2 s)
theorem frst_spec {P : Nat} {l : List BarT} {s : List Int} (h : setB ((P : Int), l) s = true) : frstB ((P : Int), l) s = ((Fo.fixN P (Fo.mrounds (setE l s) P) : Int) == (P : Int) - (s.length : Int)) := by
  unfold frstB
  rw [h, Bool.true_and, Fo.forest_iff (setE_inR h)]
  have e : (setE l s).length = s.length := by simp [setE]
  rw [e]; rfl
theorem frst_impl {P : Nat} {l : List BarT} {s : List Int} (h : setB ((P : Int), l) s = true) : frstB ((P : Int), l) s = Fo.forestB ((keepL l s).map eN) := by
  unfold frstB
  rw [h, Bool.true_and, keepL_E h]

set_option maxHeartbeats 4000000 in
theorem specFrs_at (W : World) (p : Int) (a : Option Addr) (cap : Nat) (l : List BarT) (h : BarsAt W a l.length l) (hs : l.length ≤ 1048576) (va : Option Addr) (n vcap : Nat) (s : List Int) (hv : IntsAt W va n s) (hvn : n ≤ 1048576) :
    Calls Try.prog 105 #[.agg #[.int .i64 p, .slice a l.length cap], .slice va n vcap] W fun e w' => e = .returned (.bool (frstB (p, l) s)) ∧ Below W.heap.size W w' := by
  have hwd := @Wd.cells
  have HGr : Hid (IsGraph W (.agg #[.int .i64 p, .slice a l.length cap]) (p, l)) := Lib.hid ⟨a, cap, rfl, h⟩
  have H1 := Lib.hid h
  clear h
  have hsz : szGraph (p, l) ≤ 1048576 := hs
  have hsz2 : szGraph (p, l) ≤ 1099511627776 := Nat.le_trans hsz (by decide)
  have B : Below W.heap.size W (W.alloc (.cells #[.int .i64 p, .slice a l.length cap] 26)) := (Below.refl _ _).alloc (Nat.le_refl _) _
  have BG : Hid (BoxGr (W.alloc (.cells #[.int .i64 p, .slice a l.length cap] 26)) W.heap.size p a l.length cap) := Lib.hid (BoxGr.at rfl)
  obtain rfl := hv.1
  have HV := Lib.hid hv
  clear hv
  have cS := fun (w1 : World) (b : Below W.heap.size W w1) => l5Set_at w1 p a cap l (H1.out.below b) hs va s.length vcap s (HV.out.below b) hvn
  cases hf : setB (p, l) s
  · have HE := Lib.hid (ret_bool (show frstB (p, l) s = false by simp only [frstB, hf, Bool.false_and]))
    rw [hf] at cS
    have HC := Lib.hid (show ∀ n : Wd (W.alloc (.cells #[.int .i64 p, .slice a l.length cap] 26)), Calls Try.prog 118 #[.agg #[.int .i64 p, .slice a l.length cap], .slice va s.length vcap] n.w fun e w' => e = .returned (.bool false) ∧ Below n.w.heap.size n.w w' from fun n => cS n.w (B.step n.h))
    clear cS
    obtain ⟨zBG, fBG0, fBG1⟩ := BG.out
    go_enter Try.func105, Try.ntmps105
    go_wp2_with fail
    refine wp_region_wd (by kernel_rfl) (by kernel_rfl) ?_
    repeat (go_big_quiet_step (first | (go_at_call 118; exact Calls.wd_of (HC.out _))))
    refine wpQuiet_nil ?_
    intro n1
    have B := B.step n1.h
    go_wp2_with fail
    go_ret
    exact ⟨HE.out.symm, B⟩
  rw [hf] at cS
  have HC := Lib.hid cS
  clear cS
  obtain ⟨hgr, _⟩ := setB_facts hf
  obtain ⟨⟨hg1, hg2⟩, _⟩ := isGraphB_bd hgr
  obtain ⟨P, rfl⟩ := Int.eq_ofNat_of_zero_le (show 0 ≤ p by omega)
  have HE := Lib.hid (frst_spec hf)
  have HLE := Lib.hid (rowL_length P (natF (Fo.mrounds (setE l s) P)))
  have hcnt := Fo.cnt_le P fun i => Fo.mrounds (setE l s) P i == i
  have hcnt2 : Fo.fixN P (Fo.mrounds (setE l s) P) ≤ P := hcnt
  have cR := fun (w1 : World) (b : Below W.heap.size W w1) => l8Roots_at w1 P a cap l (H1.out.below b) hs va s.length vcap s (HV.out.below b) hvn hf
  have HR := Lib.hid cR
  clear cR hcnt hf hgr
  generalize hr : Fo.mrounds (setE l s) P = r at *
  clear hr
  generalize hF : Fo.fixN P r = F at *
  have HFF := Lib.hid hF
  clear hF
  have hw := IntWalk.i64_in ((P : Int) - (s.length : Int)) (by omega)
  go_enter Try.func105, Try.ntmps105
  go_wp2_with fail
  generalize (W.alloc (.cells #[.int .i64 (P : Int), .slice a l.length cap] 26)) = u at *
  have bd : Below u.heap.size u u.drew := (Below.refl _ _).drew
  replace B := B.step bd
  replace BG := Lib.hid (BG.out.below bd)
  clear bd
  have tk1 := True.intro
  have tk2 := True.intro
  have tk3 := True.intro
  go_region_held3 (fun w' => w'.cell? ⟨W.heap.size, 0, none⟩ = some (.int .i64 (P : Int)) ∧ w'.cell? ⟨W.heap.size, 1, none⟩ = some (.slice a l.length cap))
    (with_reducible exact ⟨BG.out.c0, BG.out.c1⟩)
    (first
      | (clear tk1; go_at_call 118; refine (HC.out _ B).mono ?_; rintro e w4 ⟨rfl, b⟩; have hz4 := b.size; replace B := B.step b; replace BG := Lib.hid (BG.out.below b); clear b)
      | (clear tk2; go_at_call 120; refine (HR.out _ B).mono ?_; rintro e w5 ⟨v, rfl, ho, b⟩; have hz5 := b.size; replace B := B.step b; replace BG := Lib.hid (BG.out.below b); clear b; obtain ⟨ar, cr, rfl, hi⟩ := ho.form; rw [HLE.out] at hi ⊢; have HI := Lib.hid hi; clear hi ho)
      | (clear tk3; go_at_call 119; refine (l8Pieces_at _ P ar cr r HI.out (by omega)).mono ?_; rintro e w6 ⟨rfl, rfl⟩; rw [HFF.out])
      | fail)
  all_goals
    go_wp2_with fail
    go_ret
    exact ⟨by rw [HE.out]; rfl, B⟩

def sptB (g : GraphT) (s : List Int) : Bool := frstB g s && ((s.length : Int) == g.1 - 1)

theorem spec_IsForest (W : World) (v0 : Value) (g : GraphT) (h : IsGraph W v0 g) (v1 : Value) (s : List Int) (hv : IsInts W v1 s) (hn : szGraph g ≤ 1048576) (hvn : s.length ≤ 1048576) :
    Calls Try.prog 105 #[v0, v1] W fun e w' => e = .returned (.bool (frstB g s)) ∧ Below W.heap.size W w' := by
  obtain ⟨p, l⟩ := g
  obtain ⟨a, cap, rfl, hi⟩ := h
  obtain ⟨va, vc, rfl, hvi⟩ := hv
  exact specFrs_at _ _ _ _ _ hi hn _ _ _ _ hvi hvn
end Go.Proofs.Ytfdhbbhfilkafaa
