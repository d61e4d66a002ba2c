/- Regions that draw their order: operations may be taken first as long as one operation, which waits for them, has not come up. No program in sight. -/
import Derived.OrdersHeld
import Derived.StillTail
import Derived.Lib.Hide
import Derived.Test.YtfdhbbhfilkafaaBase
namespace Go.Proofs.Ytfdhbbhfilkafaa
open Go Go.RowKit

section
variable {P : Program} {ops : Array Oper} {Q : Exit → Act → World → Prop} {md : Region.Mode} {S : World → Prop} {L : Nat}

/-- S is kept until number L has come up -/
def wpAnyZ (P : Program) (md : Region.Mode) (ops : Array Oper) (Q : Exit → Act → World → Prop) (S : World → Prop) (L : Nat) : Nat → Array Bool → Act → World → Prop
  | 0, listed, a, w => Region.ready md ops listed = [] ∧ Q .normal a w
  | n + 1, listed, a, w =>
    (Region.ready md ops listed = [] → Q .normal a w) ∧
    ∀ i ∈ Region.ready md ops listed, wpOp P ops Q i (fun b u => ((listed.setIfInBounds i true).getD L false = true ∨ S u) ∧ wpAnyZ P md ops Q S L n (listed.setIfInBounds i true) b u) a w
theorem wpAnyZ_any : ∀ (n : Nat) (listed : Array Bool) (a : Act) (w : World), wpAnyZ P md ops Q S L n listed a w → wpAny P md ops Q n listed a w
  | 0, _, _, _, h => h
  | n + 1, _, _, _, h => ⟨h.1, fun i hi => wpOp_mono (fun b u hh => wpAnyZ_any n _ b u hh.2) (h.2 i hi)⟩
theorem unl_set {listed : Array Bool} {i : Nat} (h : listed.getD L true = false) (hne : i ≠ L) : (listed.setIfInBounds i true).getD L true = false := by
  rw [getD_set_ne true hne]; exact h
theorem unl_not {listed : Array Bool} (h : listed.getD L true = false) : ¬ listed.getD L false = true := by
  rw [getD_both h]; simp
theorem wpAnyZ_first {i : Nat} {oi : Oper} {v : Value} (hi : ops[i]? = some oi) (hsel : ∀ (j : Nat) (o : Oper) cs b, ops[j]? = some o → o.op ≠ .select cs b)
    (hQ : ∀ c a w, Q (.panic c) (a.put oi.dst v) w → Q (.panic c) a w) (hw : Region.waitsFor md ops L i = true) : ∀ (n : Nat) (listed : Array Bool) (a : Act) (w : World),
      (∀ j oj, ops[j]? = some oj → j ≠ i → listed.getD j true = false → (∀ e ∈ oj.after, Region.binds md e = true → e.on ≠ i) → oi.apart ops oj = true) →
      i ∈ Region.ready md ops listed → listed.getD L true = false → YieldsIf P ops S oi v a → S w →
      wpAnyZ P md ops Q S L n (listed.setIfInBounds i true) (a.put oi.dst v) w → wpAnyZ P md ops Q S L (n + 1) listed a w := by
  have key : ∀ (listed : Array Bool) (j : Nat), i ∈ Region.ready md ops listed → j ∈ Region.ready md ops listed → j ≠ L := by
    intro listed j hr hj e
    subst e
    obtain ⟨oj, hoj, e, he, hb, hon⟩ := Region.waitsFor_spec hw
    obtain ⟨_, oj', hoj', hall⟩ := mem_ready.1 hj
    rw [hoj] at hoj'
    simp only [Option.some.injEq] at hoj'
    subst hoj'
    have h1 := hall e he hb
    rw [hon] at h1
    exact unl_not (mem_ready.1 hr).1 h1
  intro n
  induction n with
  | zero =>
    intro listed a w _ hr _ hy hS H
    refine ⟨fun h => absurd hr (by rw [h]; simp), fun j hj => ?_⟩
    rcases Nat.decEq j i with hji | hji
    · have := ready_mono hj hji
      rw [H.1] at this
      cases this
    · subst hji; exact hy.wpOp hi hS ⟨.inr hS, H⟩
  | succ n ih =>
    intro listed a w hfree hr hL hy hS H
    refine ⟨fun h => absurd hr (by rw [h]; simp), fun j hj => ?_⟩
    rcases Nat.decEq j i with hji | hji
    · obtain ⟨hjun, oj, hoj, hall⟩ := mem_ready.1 hj
      have hiL := key listed i hr hr
      have hjL := key listed j hr hj
      have hno : ∀ e ∈ oj.after, Region.binds md e = true → e.on ≠ i := fun e he hb hon => by
        have h1 := hall e he hb
        rw [hon] at h1
        exact unl_not (mem_ready.1 hr).1 h1
      refine wpOp_mono (fun b u h3 => ?_) (wpOp_putIf hoj (hfree j oj hoj hji hjun hno) (fun cs b => hsel i oi cs b hi) (fun cs b => hsel j oj cs b hoj) hQ hy (H.2 j (ready_mono hj hji)))
      obtain ⟨hy', hz, hrest⟩ := h3
      have hS' : S u := by
        rcases hz with hz | hz
        · exact absurd hz (unl_not (unl_set (unl_set hL hiL) hjL))
        · exact hz
      refine ⟨.inr hS', ih (listed.setIfInBounds j true) b u ?_ (ready_mono hr (Ne.symm hji)) (unl_set hL hjL) hy' hS' ?_⟩
      · intro k ok hk hki hun hnk
        refine hfree k ok hk hki ?_ hnk
        rcases Nat.decEq j k with hjk | hjk
        · rw [getD_set_ne true hjk] at hun; exact hun
        · subst hjk; exact hjun
      · rw [Array.setIfInBounds_comm _ _ hji]; exact hrest
    · subst hji; exact hy.wpOp hi hS ⟨.inr hS, H⟩
theorem wpAnyZ_take {i : Nat} {oi : Oper} {v : Value} {n : Nat} {listed : Array Bool} {a : Act} {w : World} (hi : ops[i]? = some oi)
    (hs : Region.noSelect ops = true) (hf : Region.free md ops listed i = true) (hr : (Region.ready md ops listed).contains i = true) (hw : Region.waitsFor md ops L i = true) (hL : listed.getD L true = false)
    (hQ : ∀ c a w, Q (.panic c) (a.put oi.dst v) w → Q (.panic c) a w) (hS : S w) (hwant : Region.wanted oi (yielded ops a.tmps) = true) (hy : ∀ u, S u → (execOp a.eval oi).run P u = .ok (.value v) u)
    (h : wpAnyZ P md ops Q S L n (listed.setIfInBounds i true) (a.put oi.dst v) w) : wpAnyZ P md ops Q S L (n + 1) listed a w :=
  wpAnyZ_first hi (Region.noSelect_spec hs) hQ hw n listed a w (Region.free_spec hi hf) (by simpa using hr) hL (.inl ⟨hwant, hy⟩) hS h
/-- one alone may come up -/
theorem wpAnyZ_one {i : Nat} {oi : Oper} {n : Nat} {listed : Array Bool} {a : Act} {w : World} (hr : Region.ready md ops listed = [i]) (hi : ops[i]? = some oi) (hwant : Region.wanted oi (yielded ops a.tmps) = true)
    (h : Oper.wp P oi a w (fun b u => ((listed.setIfInBounds i true).getD L false = true ∨ S u) ∧ wpAnyZ P md ops Q S L n (listed.setIfInBounds i true) b u) Q) : wpAnyZ P md ops Q S L (n + 1) listed a w := by
  refine ⟨fun h0 => (by rw [hr] at h0; cases h0), fun j hj => ?_⟩
  rw [hr] at hj
  have : j = i := by simpa using hj
  subst this
  unfold wpOp
  rw [hi]
  dsimp only
  rw [if_pos hwant]
  exact .inl h
/-- .. what follows as a letter -/
theorem wpAnyZ_step {i : Nat} {oi : Oper} {n : Nat} {listed : Array Bool} {a : Act} {w : World} (hr : Region.ready md ops listed = [i]) (hi : ops[i]? = some oi) (hwant : Region.wanted oi (yielded ops a.tmps) = true)
    (h : ∀ K : Act → World → Prop, Hid (∀ b u, ((listed.setIfInBounds i true).getD L false = true ∨ S u) → wpAnyZ P md ops Q S L n (listed.setIfInBounds i true) b u → K b u) → if Region.wanted oi (yielded ops a.tmps) = true then Oper.wp P oi a w K Q else K (a.put oi.dst undef) w) : wpAnyZ P md ops Q S L (n + 1) listed a w := by
  have h1 := h (fun b u => ((listed.setIfInBounds i true).getD L false = true ∨ S u) ∧ wpAnyZ P md ops Q S L n (listed.setIfInBounds i true) b u) (Lib.hid fun b u h1 h2 => ⟨h1, h2⟩)
  rw [if_pos hwant] at h1
  exact wpAnyZ_one hr hi hwant h1
theorem wpAnyZ_done {listed : Array Bool} {a : Act} {w : World} (hr : Region.ready md ops listed = []) (h : Q .normal a w) : ∀ n, wpAnyZ P md ops Q S L n listed a w
  | 0 => ⟨hr, h⟩
  | _ + 1 => ⟨fun _ => h, by rw [hr]; simp⟩
theorem wp_regionZ {id : Nat} {a : Act} {w : World} (S : World → Prop) (L : Nat) (hm : P.follows .mixedOrders = true)
    (h : wpAnyZ P .any ops Q S L ops.size (Array.replicate ops.size false) a w.drew) : (Code.region id ops true).wp P Q a w :=
  wp_region_any hm (wpAnyZ_any _ _ _ _ h)
end
end Go.Proofs.Ytfdhbbhfilkafaa
