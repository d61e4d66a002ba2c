/- StressesOf of the program and of the reference. No condition but sizes. -/
import Derived.Test.YtjmclkikkmhmjaaTrn
import Derived.Test.YtjmclkikkmhmjaaTrp
import Derived.Deep.RegionHeld3
namespace Go.Proofs.Ytjmclkikkmhmjaa
open Go.RowKit Gr
set_option maxRecDepth 100000
set_option linter.unusedVariables false
set_option linter.unusedSimpArgs false

theorem turnL_length (M : List (List Int)) (n : Nat) : (turnL M n).length = n := by simp [turnL]
theorem turnL_get {M : List (List Int)} {n j : Nat} (h : j < n) : (turnL M n)[j]? = some (rowL M.length fun i => entF M i j) := by simp [turnL, h, colL]
theorem entF_turn {M : List (List Int)} {n i j : Nat} (hj : j < n) (hi : i < M.length) : entF (turnL M n) j i = entF M i j := entF_rowL (turnL_get hj) hi
theorem fit_turn {p : Int} {l : List BarT} {q : List PlaceT} (h : isFwB (p, l, q) = true) (hl : 0 < l.length) : Fit (turnL (rigM (p, l, q)) (2 * p.toNat)) l.length (64 ^ 10) := by
  have e : rigM (p, l, q) = l.map (rigRow p q) := by simp only [rigM, h]; rfl
  obtain ⟨⟨h1, h2⟩, h3, h4, h5, h6⟩ := isFw_facts h
  have hlen := rigM_len h
  have hrow : ∀ i, i < l.length → ∃ x, x ∈ l ∧ (rigM (p, l, q))[i]? = some (rowL (2 * p.toNat) (rigF q x)) := fun i hi => ⟨l[i], List.getElem_mem hi, by rw [e, List.getElem?_map, List.getElem?_eq_getElem hi]; rfl⟩
  have hcol : ∀ k, k < l.length → ∃ x, x ∈ l ∧ ∀ i, i < 2 * p.toNat → entF (turnL (rigM (p, l, q)) (2 * p.toNat)) i k = rigF q x i := fun k hk => by
    obtain ⟨x, hx, hr⟩ := hrow k hk
    exact ⟨x, hx, fun i hi => by rw [entF_turn hi (by omega), entF_rowL hr hi]⟩
  refine ⟨fun r hr => ?_, by rw [turnL_length]; omega, hl, by omega, ?_, by decide⟩
  · obtain ⟨j, _, rfl⟩ := List.mem_map.1 hr
    rw [colL_length]; exact hlen
  · rw [turnL_length]
    refine Bnd.mono (Bnd.byCols (L := 0) (B := 64) (by decide) (fun k hk => ?_) [tr0, tr1] (fun t ht k hk => ?_) ?_ (fun t ht => ?_)) (pow_mono (B := 64) (by decide) (show 2 * p.toNat - [tr0, tr1].length ≤ 10 by simp; omega))
    · obtain ⟨x, hx, hr⟩ := hcol k hk
      rw [sq_ext fun i hi => hr i hi]
      exact (rig_sq h hx).1
    · obtain ⟨x, hx, hr⟩ := hcol k hk
      rw [dt_ext fun i hi => hr i hi]
      simp only [List.mem_cons, List.not_mem_nil, or_false] at ht
      rcases ht with rfl | rfl
      · exact (rig_sq h hx).2.1
      · exact (rig_sq h hx).2.2
    · simp [tr_dt]
    · simp only [List.mem_cons, List.not_mem_nil, or_false] at ht
      rcases ht with rfl | rfl
      · have := sq_at (show 0 < 2 * p.toNat by omega) tr0
        have e2 : tr0 0 * tr0 0 = 1 := rfl
        omega
      · have := sq_at (show 1 < 2 * p.toNat by omega) tr1
        have e2 : tr1 1 * tr1 1 = 1 := rfl
        omega
def strL (f : FwT) : List (List Int) := if (isFwB f && decide (0 < f.2.1.length)) = true then nullL (turnL (rigM f) (2 * f.1.toNat)) f.2.1.length else []
theorem strL_sz (f : FwT) : szIntss (strL f) ≤ 1048576 := by
  obtain ⟨p, l, q⟩ := f
  unfold strL
  split
  · rename_i h
    simp only [Bool.and_eq_true, decide_eq_true_eq] at h
    have h1 := (fit_turn h.1 h.2).n64
    have h2 := nullL_len (turnL (rigM (p, l, q)) (2 * p.toNat)) l.length
    have h3 := nullL_sum (turnL (rigM (p, l, q)) (2 * p.toNat)) l.length
    have h4 : l.length * l.length ≤ 64 * 64 := Nat.mul_le_mul h1 h1
    unfold szIntss; dsimp only; omega
  · decide

set_option maxHeartbeats 4000000 in
theorem specStr_at (W : World) (p : Int) (a : Option Addr) (cap : Nat) (l : List BarT) (c : Option Addr) (capc : Nat) (q : List PlaceT) (h : BarsAt W a l.length l) (hq : PlacesAt W c q.length q) (hs : l.length + q.length ≤ 1048576) :
    Calls Try.prog 40 #[.agg #[.int .i64 p, .slice a l.length cap, .slice c q.length capc]] W (RetIntss W (strL (p, l, q))) := by
  have hwd := @Wd.cells
  have HFw : Hid (IsFw W (.agg #[.int .i64 p, .slice a l.length cap, .slice c q.length capc]) (p, l, q)) := Lib.hid ⟨a, cap, c, capc, rfl, h, hq⟩
  have H1 := Lib.hid h
  have H2 := Lib.hid hq
  clear h hq
  have hsz : szFw (p, l, q) ≤ 1048576 := hs
  have hs1 : l.length ≤ 1048576 := by omega
  have hs2 : q.length ≤ 1048576 := by omega
  have B : Below W.heap.size W (W.alloc (.cells #[.int .i64 p, .slice a l.length cap, .slice c q.length capc] 41)) := (Below.refl _ _).alloc (Nat.le_refl _) _
  have BX : Hid (BoxFw (W.alloc (.cells #[.int .i64 p, .slice a l.length cap, .slice c q.length capc] 41)) W.heap.size p a l.length cap c q.length capc) := Lib.hid (BoxFw.at rfl)
  cases hf : isFwB (p, l, q)
  · have HE := Lib.hid (show strL (p, l, q) = [] by unfold strL; rw [hf]; rfl)
    go_enter Try.func40, Try.ntmps40
    go_wp2_with fail
    refine (spec_IsFramework _ _ (p, l, q) (HFw.out.below B) hsz).mono ?_
    rintro e w1 ⟨rfl, b⟩
    have hz_w1 := b.size
    replace B := B.step b
    replace BX := Lib.hid (BX.out.below b)
    clear b
    rw [hf]
    obtain ⟨zBX, fBX0, fBX1, fBX2⟩ := BX.out
    have HO := Lib.hid (made_intss w1)
    go_wp2_with fail
    go_ret
    exact ⟨_, rfl, by rw [HE.out]; exact ownsRow_base' HO.out B.size, B.step ((Below.refl _ _).alloc (Nat.le_refl _) _)⟩
  by_cases hl : l.length = 0
  · have HE := Lib.hid (show strL (p, l, q) = [] by unfold strL; rw [hf]; simp [hl])
    have hlb : ((l.length : Int) == 0) = true := by rw [hl]; rfl
    clear hl
    go_enter Try.func40, Try.ntmps40
    go_wp2_with fail
    refine (spec_IsFramework _ _ (p, l, q) (HFw.out.below B) hsz).mono ?_
    rintro e w1 ⟨rfl, b⟩
    have hz_w1 := b.size
    replace B := B.step b
    replace BX := Lib.hid (BX.out.below b)
    clear b
    rw [hf]
    obtain ⟨zBX, fBX0, fBX1, fBX2⟩ := BX.out
    have HO := Lib.hid (made_intss w1)
    go_wp2_with fail
    go_ret
    exact ⟨_, rfl, by rw [HE.out]; exact ownsRow_base' HO.out B.size, B.step ((Below.refl _ _).alloc (Nat.le_refl _) _)⟩
  have hlp : 0 < l.length := by omega
  have hlb : ((l.length : Int) == 0) = false := by rw [beq_eq_false_iff_ne]; omega
  have HE := Lib.hid (show strL (p, l, q) = nullL (turnL (rigM (p, l, q)) (2 * p.toNat)) l.length by unfold strL; rw [hf, decide_eq_true hlp]; rfl)
  have HFIT := Lib.hid (fit_turn hf hlp)
  have HF0 := Lib.hid (fit_rig hf)
  obtain ⟨⟨hg1, hg2⟩, _, _, _, _⟩ := isFw_facts hf
  have htl : (turnL (rigM (p, l, q)) (2 * p.toNat)).length = 2 * p.toNat := by simp [turnL]
  have cT : ∀ (w : World), Below W.heap.size W w → Calls Try.prog 72 #[.agg #[.int .i64 p, .slice a l.length cap, .slice c q.length capc]] w (RetIntss w (turnL (rigM (p, l, q)) (2 * p.toNat))) := fun w b => by
    have := l13Turned_at w p a cap l c capc q (H1.out.below b) (H2.out.below b) hs hf
    rwa [show turnR (p, l, q) = turnL (rigM (p, l, q)) (2 * p.toNat) from if_neg (show ¬ (rigM (p, l, q)).length = 0 by have := rigM_len hf; omega)] at this
  have HT := Lib.hid cT
  clear cT
  have cR : ∀ (w : World) (am : Option Addr) (cm : Nat), IntssAt w am (turnL (rigM (p, l, q)) (2 * p.toNat)).length (turnL (rigM (p, l, q)) (2 * p.toNat)) → Calls Try.prog 57 #[.slice am (turnL (rigM (p, l, q)) (2 * p.toNat)).length cm, .int .i64 l.length] w (RetIntss w (nullL (turnL (rigM (p, l, q)) (2 * p.toNat)) l.length)) := fun w am cm hi =>
    l9Null_fit (turnL (rigM (p, l, q)) (2 * p.toNat)) l.length _ _ HFIT.out w am cm hi
  have HR := Lib.hid cR
  clear cR htl hl
  go_enter Try.func40, Try.ntmps40
  go_wp2_with fail
  refine (spec_IsFramework _ _ (p, l, q) (HFw.out.below B) hsz).mono ?_
  rintro e w1 ⟨rfl, b⟩
  have hz_w1 := b.size
  replace B := B.step b
  replace BX := Lib.hid (BX.out.below b)
  clear b
  rw [hf]
  obtain ⟨zBX, fBX0, fBX1, fBX2⟩ := BX.out
  go_wp2_with fail
  have hw := IntWalk.i64_in (2 * p) (by omega)
  have bd : Below w1.heap.size w1 w1.drew := (Below.refl _ _).drew
  replace B := B.step bd
  replace BX := Lib.hid (BX.out.below bd)
  clear bd
  clear zBX fBX0 fBX1 fBX2
  have tk1 := True.intro
  have tk2 := True.intro
  have tk3 := True.intro
  go_region_held3 (fun w' => w'.cell? ⟨W.heap.size, 0, none⟩ = some (.int .i64 p) ∧ w'.cell? ⟨W.heap.size, 1, none⟩ = some (.slice a l.length cap) ∧ w'.cell? ⟨W.heap.size, 2, none⟩ = some (.slice c q.length capc))
    (with_reducible exact ⟨BX.out.c0, BX.out.c1, BX.out.c2⟩)
    (first
      | (clear tk1; go_at_call 72; refine (HT.out _ B).mono ?_; rintro e w5 ⟨v, rfl, ho, b⟩; have hz5 := b.size; replace B := B.step b; replace BX := Lib.hid (BX.out.below b); clear b; obtain ⟨an, cn, rfl, hi⟩ := ho.form; have HJ := Lib.hid hi; clear hi ho)
      | (clear tk3; go_at_call 57; refine (HR.out _ _ _ HJ.out).mono ?_; rintro e w6 ⟨v, rfl, ho, b⟩; have hz6 := B.size; have HOV := Lib.hid ho; clear ho; replace B := B.step b; replace BX := Lib.hid (BX.out.below b); clear b)
      | fail)
  all_goals
    go_wp2_with fail
    go_ret
    exact ⟨_, rfl, by rw [HE.out]; exact ownsRow_base' HOV.out (by omega), B⟩
theorem spec_StressesOf (W : World) (v : Value) (f : FwT) (h : IsFw W v f) (hn : szFw f ≤ 1048576) : Calls Try.prog 40 #[v] W (RetIntss W (strL f)) := by
  obtain ⟨p, l, q⟩ := f
  obtain ⟨a, cap, c, capc, rfl, hi, hj⟩ := h
  exact specStr_at _ _ _ _ _ _ _ _ hi hj hn

set_option maxHeartbeats 4000000 in
theorem implStr_at (W : World) (p : Int) (a : Option Addr) (cap : Nat) (l : List BarT) (c : Option Addr) (capc : Nat) (q : List PlaceT) (h : BarsAt W a l.length l) (hq : PlacesAt W c q.length q) (hs : l.length + q.length ≤ 1048576) :
    Calls Try.prog 41 #[.agg #[.int .i64 p, .slice a l.length cap, .slice c q.length capc]] W (RetIntss W (strL (p, l, q))) := by
  have hwd := @Wd.cells
  have HFw : Hid (IsFw W (.agg #[.int .i64 p, .slice a l.length cap, .slice c q.length capc]) (p, l, q)) := Lib.hid ⟨a, cap, c, capc, rfl, h, hq⟩
  have H1 := Lib.hid h
  have H2 := Lib.hid hq
  clear h hq
  have hsz : szFw (p, l, q) ≤ 1048576 := hs
  have hs1 : l.length ≤ 1048576 := by omega
  have hs2 : q.length ≤ 1048576 := by omega
  have B : Below W.heap.size W (W.alloc (.cells #[.int .i64 p, .slice a l.length cap, .slice c q.length capc] 41)) := (Below.refl _ _).alloc (Nat.le_refl _) _
  have BX : Hid (BoxFw (W.alloc (.cells #[.int .i64 p, .slice a l.length cap, .slice c q.length capc] 41)) W.heap.size p a l.length cap c q.length capc) := Lib.hid (BoxFw.at rfl)
  cases hf : isFwB (p, l, q)
  · have HE := Lib.hid (show strL (p, l, q) = [] by unfold strL; rw [hf]; rfl)
    go_enter Try.func41, Try.ntmps41
    go_wp2_with fail
    refine (impl_IsFramework _ _ (p, l, q) (HFw.out.below B) hsz).mono ?_
    rintro e w1 ⟨rfl, b⟩
    have hz_w1 := b.size
    replace B := B.step b
    replace BX := Lib.hid (BX.out.below b)
    clear b
    rw [hf]
    obtain ⟨zBX, fBX0, fBX1, fBX2⟩ := BX.out
    have HO := Lib.hid (made_intss w1)
    go_wp2_with fail
    go_ret
    exact ⟨_, rfl, by rw [HE.out]; exact ownsRow_base' HO.out B.size, B.step ((Below.refl _ _).alloc (Nat.le_refl _) _)⟩
  by_cases hl : l.length = 0
  · have HE := Lib.hid (show strL (p, l, q) = [] by unfold strL; rw [hf]; simp [hl])
    have hlb : ((l.length : Int) == 0) = true := by rw [hl]; rfl
    clear hl
    go_enter Try.func41, Try.ntmps41
    go_wp2_with fail
    refine (impl_IsFramework _ _ (p, l, q) (HFw.out.below B) hsz).mono ?_
    rintro e w1 ⟨rfl, b⟩
    have hz_w1 := b.size
    replace B := B.step b
    replace BX := Lib.hid (BX.out.below b)
    clear b
    rw [hf]
    obtain ⟨zBX, fBX0, fBX1, fBX2⟩ := BX.out
    have HO := Lib.hid (made_intss w1)
    go_wp2_with fail
    go_ret
    exact ⟨_, rfl, by rw [HE.out]; exact ownsRow_base' HO.out B.size, B.step ((Below.refl _ _).alloc (Nat.le_refl _) _)⟩
  have hlp : 0 < l.length := by omega
  have hlb : ((l.length : Int) == 0) = false := by rw [beq_eq_false_iff_ne]; omega
  have HE := Lib.hid (show strL (p, l, q) = nullL (turnL (rigM (p, l, q)) (2 * p.toNat)) l.length by unfold strL; rw [hf, decide_eq_true hlp]; rfl)
  have HFIT := Lib.hid (fit_turn hf hlp)
  have HF0 := Lib.hid (fit_rig hf)
  obtain ⟨⟨hg1, hg2⟩, _, _, _, _⟩ := isFw_facts hf
  have htl : (turnL (rigM (p, l, q)) (2 * p.toNat)).length = 2 * p.toNat := by simp [turnL]
  have cT : ∀ (w : World) (am : Option Addr) (cm : Nat), IntssAt w am (rigM (p, l, q)).length (rigM (p, l, q)) → Calls Try.prog 73 #[.slice am (rigM (p, l, q)).length cm, .int .i64 (2 * p)] w (RetIntss w (turnL (rigM (p, l, q)) (2 * p.toNat))) := fun w am cm hi => by
    have := transposed_at (rigM (p, l, q)) (2 * p.toNat) _ HF0.out.rect HF0.out.n0 HF0.out.n64 HF0.out.m64 w am cm hi
    rwa [show ((2 * p.toNat : Nat) : Int) = 2 * p by omega] at this
  have HT := Lib.hid cT
  clear cT
  have cR : ∀ (w : World) (am : Option Addr) (cm : Nat), IntssAt w am (turnL (rigM (p, l, q)) (2 * p.toNat)).length (turnL (rigM (p, l, q)) (2 * p.toNat)) → Calls Try.prog 58 #[.slice am (turnL (rigM (p, l, q)) (2 * p.toNat)).length cm, .int .i64 l.length] w (RetIntss w (nullL (turnL (rigM (p, l, q)) (2 * p.toNat)) l.length)) := fun w am cm hi =>
    nullspace_fit (turnL (rigM (p, l, q)) (2 * p.toNat)) l.length _ _ HFIT.out w am cm hi
  have HR := Lib.hid cR
  clear cR htl hl
  go_enter Try.func41, Try.ntmps41
  go_wp2_with fail
  refine (impl_IsFramework _ _ (p, l, q) (HFw.out.below B) hsz).mono ?_
  rintro e w1 ⟨rfl, b⟩
  have hz_w1 := b.size
  replace B := B.step b
  replace BX := Lib.hid (BX.out.below b)
  clear b
  rw [hf]
  obtain ⟨zBX, fBX0, fBX1, fBX2⟩ := BX.out
  go_wp2_with fail
  have hw := IntWalk.i64_in (2 * p) (by omega)
  have bd : Below w1.heap.size w1 w1.drew := (Below.refl _ _).drew
  replace B := B.step bd
  replace BX := Lib.hid (BX.out.below bd)
  clear bd
  clear zBX fBX0 fBX1 fBX2
  have tk1 := True.intro
  have tk2 := True.intro
  have tk3 := True.intro
  go_region_held3 (fun w' => w'.cell? ⟨W.heap.size, 0, none⟩ = some (.int .i64 p) ∧ w'.cell? ⟨W.heap.size, 1, none⟩ = some (.slice a l.length cap) ∧ w'.cell? ⟨W.heap.size, 2, none⟩ = some (.slice c q.length capc))
    (with_reducible exact ⟨BX.out.c0, BX.out.c1, BX.out.c2⟩)
    (first
      | (clear tk1; go_at_call 66; refine (impl_RigidityMatrix _ _ (p, l, q) (HFw.out.below B) hsz).mono ?_; rintro e w4 ⟨v, rfl, ho, b⟩; have hz4 := b.size; replace B := B.step b; replace BX := Lib.hid (BX.out.below b); clear b; obtain ⟨am, cm, rfl, hi⟩ := ho.form; have HI := Lib.hid hi; clear hi ho)
      | (clear tk2; go_at_call 73; refine (HT.out _ _ _ HI.out).mono ?_; rintro e w5 ⟨v, rfl, ho, b⟩; have hz5 := b.size; replace B := B.step b; replace BX := Lib.hid (BX.out.below b); clear b; obtain ⟨an, cn, rfl, hi⟩ := ho.form; have HJ := Lib.hid hi; clear hi ho)
      | (clear tk3; go_at_call 58; refine (HR.out _ _ _ HJ.out).mono ?_; rintro e w6 ⟨v, rfl, ho, b⟩; have hz6 := B.size; have HOV := Lib.hid ho; clear ho; replace B := B.step b; replace BX := Lib.hid (BX.out.below b); clear b)
      | fail)
  all_goals
    go_wp2_with fail
    go_ret
    exact ⟨_, rfl, by rw [HE.out]; exact ownsRow_base' HOV.out (by omega), B⟩
theorem impl_StressesOf (W : World) (v : Value) (f : FwT) (h : IsFw W v f) (hn : szFw f ≤ 1048576) : Calls Try.prog 41 #[v] W (RetIntss W (strL f)) := by
  obtain ⟨p, l, q⟩ := f
  obtain ⟨a, cap, c, capc, rfl, hi, hj⟩ := h
  exact implStr_at _ _ _ _ _ _ _ _ hi hj hn
end Go.Proofs.Ytjmclkikkmhmjaa
