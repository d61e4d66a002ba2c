/- Regions that draw their order: operations that a guard leaves out; operations that the last one waits for by way of others. No program in sight. -/
import Derived.Test.YtfdhbbhfilkafaaGreatPbA
namespace Go.Proofs.YtfdhbbhfilkafaaGreat
open Go Go.RowKit
section
variable {P : Program} {ops : Array Oper} {Q : Exit → Act → World → Prop} {md : Region.Mode} {S : World → Prop} {L : Nat}
/-- each number waits for the one ahead of it -/
def chainB (md : Region.Mode) (ops : Array Oper) (i : Nat) : List Nat → Bool
  | [] => true
  | j :: C => Region.waitsFor md ops j i && chainB md ops j C
theorem chain_mem : ∀ (C : List Nat) (i : Nat), chainB md ops i C = true → ∀ c ∈ C, ∃ c' ∈ i :: C, Region.waitsFor md ops c c' = true
  | [], _, _, c, hc => absurd hc (by simp)
  | j :: C, i, h, c, hc => by
    unfold chainB at h
    simp only [Bool.and_eq_true] at h
    rcases List.mem_cons.1 hc with e | e
    · subst e; exact ⟨i, List.mem_cons_self .., h.1⟩
    · obtain ⟨c', h1, h2⟩ := chain_mem C j h.2 c e
      exact ⟨c', List.mem_cons_of_mem _ h1, h2⟩
theorem wpAnyZ_firstC {i : Nat} {oi : Oper} {v : Value} {C : List Nat} (hi : ops[i]? = some oi) (hsel : ∀ (j : Nat) (o : Oper) cs b, ops[j]? = some o → o.op ≠ .select cs b)
    (hQ : ∀ c a w, Q (.panic c) (a.put oi.dst v) w → Q (.panic c) a w) (hw : chainB md ops i C = true) (hLC : L ∈ C) : ∀ (n : Nat) (listed : Array Bool) (a : Act) (w : World),
      (∀ j oj, ops[j]? = some oj → j ≠ i → listed.getD j true = false → (∀ e ∈ oj.after, Region.binds md e = true → e.on ≠ i) → oi.apart ops oj = true) →
      i ∈ Region.ready md ops listed → (∀ c ∈ C, listed.getD c true = false) → YieldsIf P ops S oi v a → S w →
      wpAnyZ P md ops Q S L n (listed.setIfInBounds i true) (a.put oi.dst v) w → wpAnyZ P md ops Q S L (n + 1) listed a w := by
  have key : ∀ (listed : Array Bool) (j : Nat), i ∈ Region.ready md ops listed → (∀ c ∈ C, listed.getD c true = false) → j ∈ Region.ready md ops listed → j ∉ C := by
    intro listed j hr hun hj hjC
    obtain ⟨c', hc', hwt⟩ := chain_mem C i hw j hjC
    obtain ⟨oj, hoj, e, he, hb, hon⟩ := Region.waitsFor_spec hwt
    obtain ⟨_, oj', hoj', hall⟩ := mem_ready.1 hj
    rw [hoj] at hoj'
    simp only [Option.some.injEq] at hoj'
    subst hoj'
    have h1 := hall e he hb
    rw [hon] at h1
    rcases List.mem_cons.1 hc' with e1 | e1
    · subst e1; exact unl_not (mem_ready.1 hr).1 h1
    · exact unl_not (hun c' e1) h1
  intro n
  induction n with
  | zero =>
    intro listed a w _ hr _ hy hS H
    refine ⟨fun h => absurd hr (by rw [h]; simp), fun j hj => ?_⟩
    rcases Nat.decEq j i with hji | hji
    · have := ready_mono hj hji
      rw [H.1] at this
      cases this
    · subst hji; exact hy.wpOp hi hS ⟨.inr hS, H⟩
  | succ n ih =>
    intro listed a w hfree hr hL hy hS H
    refine ⟨fun h => absurd hr (by rw [h]; simp), fun j hj => ?_⟩
    rcases Nat.decEq j i with hji | hji
    · obtain ⟨hjun, oj, hoj, hall⟩ := mem_ready.1 hj
      have hiC := key listed i hr hL hr
      have hjC := key listed j hr hL hj
      have hiL : i ≠ L := fun e => hiC (e ▸ hLC)
      have hjL : j ≠ L := fun e => hjC (e ▸ hLC)
      have hno : ∀ e ∈ oj.after, Region.binds md e = true → e.on ≠ i := fun e he hb hon => by
        have h1 := hall e he hb
        rw [hon] at h1
        exact unl_not (mem_ready.1 hr).1 h1
      refine wpOp_mono (fun b u h3 => ?_) (wpOp_putIf hoj (hfree j oj hoj hji hjun hno) (fun cs b => hsel i oi cs b hi) (fun cs b => hsel j oj cs b hoj) hQ hy (H.2 j (ready_mono hj hji)))
      obtain ⟨hy', hz, hrest⟩ := h3
      have hS' : S u := by
        rcases hz with hz | hz
        · exact absurd hz (unl_not (unl_set (unl_set (hL L hLC) hiL) hjL))
        · exact hz
      refine ⟨.inr hS', ih (listed.setIfInBounds j true) b u ?_ (ready_mono hr (Ne.symm hji)) (fun c hc => unl_set (hL c hc) fun e => hjC (e ▸ hc)) hy' hS' ?_⟩
      · intro k ok hk hki hun hnk
        refine hfree k ok hk hki ?_ hnk
        rcases Nat.decEq j k with hjk | hjk
        · rw [getD_set_ne true hjk] at hun; exact hun
        · subst hjk; exact hjun
      · rw [Array.setIfInBounds_comm _ _ hji]; exact hrest
    · subst hji; exact hy.wpOp hi hS ⟨.inr hS, H⟩
theorem wpAnyZ_takeC {i : Nat} {oi : Oper} {v : Value} {n : Nat} {listed : Array Bool} {a : Act} {w : World} (C : List Nat) (hi : ops[i]? = some oi)
    (hs : Region.noSelect ops = true) (hf : Region.free md ops listed i = true) (hr : (Region.ready md ops listed).contains i = true) (hw : chainB md ops i C = true) (hLC : C.contains L = true) (hL : (C.all fun c => !listed.getD c true) = true)
    (hQ : ∀ c a w, Q (.panic c) (a.put oi.dst v) w → Q (.panic c) a w) (hS : S w) (hwant : Region.wanted oi (yielded ops a.tmps) = true) (hy : ∀ u, S u → (execOp a.eval oi).run P u = .ok (.value v) u)
    (h : wpAnyZ P md ops Q S L n (listed.setIfInBounds i true) (a.put oi.dst v) w) : wpAnyZ P md ops Q S L (n + 1) listed a w :=
  wpAnyZ_firstC (C := C) hi (Region.noSelect_spec hs) hQ hw (by simpa using hLC) n listed a w (Region.free_spec hi hf) (by simpa using hr) (fun c hc => by simpa using List.all_eq_true.1 hL c hc) (.inl ⟨hwant, hy⟩) hS h
theorem wpAnyZ_skip {i : Nat} {oi : Oper} {n : Nat} {listed : Array Bool} {a : Act} {w : World} (C : List Nat) (hi : ops[i]? = some oi)
    (hs : Region.noSelect ops = true) (hf : Region.free md ops listed i = true) (hr : (Region.ready md ops listed).contains i = true) (hw : chainB md ops i C = true) (hLC : C.contains L = true) (hL : (C.all fun c => !listed.getD c true) = true)
    (hQ : ∀ c a w, Q (.panic c) (a.put oi.dst undef) w → Q (.panic c) a w) (hS : S w) (hwant : Region.wanted oi (yielded ops a.tmps) = false)
    (h : wpAnyZ P md ops Q S L n (listed.setIfInBounds i true) (a.put oi.dst undef) w) : wpAnyZ P md ops Q S L (n + 1) listed a w :=
  wpAnyZ_firstC (C := C) hi (Region.noSelect_spec hs) hQ hw (by simpa using hLC) n listed a w (Region.free_spec hi hf) (by simpa using hr) (fun c hc => by simpa using List.all_eq_true.1 hL c hc) (.inr ⟨hwant, rfl⟩) hS h
/-- one alone may come up, and a guard leaves it out -/
theorem wpAnyZ_not {i : Nat} {oi : Oper} {n : Nat} {listed : Array Bool} {a : Act} {w : World} (hr : Region.ready md ops listed = [i]) (hi : ops[i]? = some oi) (hwant : Region.wanted oi (yielded ops a.tmps) = false)
    (hS : (listed.setIfInBounds i true).getD L false = true ∨ S w)
    (h : wpAnyZ P md ops Q S L n (listed.setIfInBounds i true) (a.put oi.dst undef) w) : wpAnyZ P md ops Q S L (n + 1) listed a w := by
  refine ⟨fun h0 => (by rw [hr] at h0; cases h0), fun j hj => ?_⟩
  rw [hr] at hj
  have : j = i := by simpa using hj
  subst this
  unfold wpOp
  rw [hi]
  dsimp only
  rw [if_neg (by rw [hwant]; simp)]
  exact ⟨hS, h⟩
end
end Go.Proofs.YtfdhbbhfilkafaaGreat
