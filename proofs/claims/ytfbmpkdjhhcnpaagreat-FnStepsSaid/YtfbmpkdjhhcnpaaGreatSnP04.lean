/- IsMatrix of the program and of the reference. -/
import Derived.Test.YtfbmpkdjhhcnpaaGreatSnP03
import Derived.Test.YtfbmpkdjhhcnpaaGreatSnP02
import Derived.OwnWalk
import Derived.OrdersHeld
import Derived.StillTail
import Derived.Lib.Hide
import Derived.Test.YtfbmpkdjhhcnpaaGreatSnP01
namespace Go.Proofs.YtfbmpkdjhhcnpaaGreat
open Go.RowKit
set_option maxRecDepth 100000
set_option linter.unusedVariables false
set_option linter.unusedSimpArgs false


theorem Kept.on {S T : Nat → Prop} {a b c : World} (h : Kept S a b) (k : Kept T b c) (hT : ∀ i, i < a.heap.size → T i → S i) : Kept S a c :=
 ⟨k.os.trans h.os, k.tape.trans h.tape, k.output.trans h.output, Nat.le_trans h.size k.size, fun i hi hs => (k.block i (Nat.lt_of_lt_of_le hi h.size) fun ht => hs (hT i hi ht)).trans (h.block i hi hs)⟩
set_option maxHeartbeats 4000000 in
theorem l1New_at (W : World) (ca : Option Addr) (n cap : Nat) (l : List Int) (hB : BytesAt W ca n l) (hn : n ≤ 1048576) : Calls Tryz.prog 46 #[.slice ca n cap] W fun e w' => ∃ g, e = .returned (.pointer (some ⟨g, 0, none⟩)) ∧ Drw W w' g ca n cap l := by
 have HB := Lib.hid hB
 clear hB
 go_enter Tryz.func46, Tryz.ntmps46
 go_wp2_with fail
 go_loopw [3, 4] (fun h i w9 => ∃ (k : Nat) (x : Int), k ≤ n ∧ h = .int .i64 x ∧ i = .int .i64 k ∧ W = w9) (fun _ i _ => n - (intOf i).toNat)
 case atStart => exact ⟨0, _, Nat.zero_le _, rfl, rfl, rfl⟩
 case round =>
  obtain ⟨k, x, hk, rfl, rfl, rfl⟩ := hrel
  have hfin : ∀ x : Int, Drw W (W.alloc (.cells #[.slice ca n cap, .int .i64 0, .int .i64 x] 110)) W.heap.size ca n cap l := fun x =>
   ⟨belAl _ _, Nat.le_refl _, by simp, by simp, ⟨0, Nat.zero_le _, by simp⟩, ⟨x, by simp⟩, by simp [World.frozen?_alloc_new], by simp [World.frozen?_alloc_new]⟩
  by_cases hlt : k < n
  ·have hki : (k : Int) < (n : Int) := by omega
   by_cases h4 : (k : Int) < 4000
   ·obtain ⟨b, off, y, rfl, hb, hy, hc, hy0, hy1⟩ := HB.out.2 k hlt
    have hk0 : (0 : Int) ≤ (k : Int) := by omega
    go_wp2_with fail
    go_roundw
    case rel => exact ⟨k + 1, _, by omega, rfl, by go_num, trivial⟩
    case measure => simp [intOf]; omega
   ·go_wp2_with fail
    go_ret
    exact ⟨_, rfl, hfin _⟩
  ·have hki : ¬ (k : Int) < (n : Int) := by omega
   go_wp2_with fail
   go_ret
   exact ⟨_, rfl, hfin _⟩
def RetDb (W0 w : World) (g : Nat) (ca : Option Addr) (n cap : Nat) (l : List Int) (e : Ending) (w' : World) : Prop := ∃ x : Bool, e = .returned (.bool x) ∧ Drw W0 w' g ca n cap l ∧ Kept (fun b => b = g) w w'
set_option maxHeartbeats 4000000 in
theorem l1Once_at (W0 w : World) (g : Nat) (ca : Option Addr) (n cap : Nat) (l : List Int) (hB : BytesAt W0 ca n l) (hn : n ≤ 1099511627776) (h : Drw W0 w g ca n cap l) (m : Int) (hm : 1 ≤ m ∧ m ≤ 256) : Calls Tryz.prog 58 #[.pointer (some ⟨g, 0, none⟩), .int .i64 m] w (RetDb W0 w g ca n cap l) := by
 have HC := Lib.hid (l1Below_at W0 w g ca n cap l hB hn h m hm)
 clear hB h
 go_enter Tryz.func58, Tryz.ntmps58
 go_wp2_with fail
 refine HC.out.mono ?_
 rintro e w1 ⟨x, hx, rfl, d1, k1⟩
 have D1 := Lib.hid d1
 have K1 := Lib.hid k1
 clear d1 k1 HC
 go_wp2_with fail
 go_ret
 exact ⟨_, rfl, D1.out, K1.out⟩
set_option maxHeartbeats 4000000 in
theorem l1PickInt_at (W0 w : World) (g : Nat) (ca : Option Addr) (n cap : Nat) (l : List Int) (hB : BytesAt W0 ca n l) (hn : n ≤ 1099511627776) (h : Drw W0 w g ca n cap l) {base : Nat} (hg : g < base) {v : Value} {xs : List Int} (ho : OwnInts w base v xs) (hx1 : 1 ≤ xs.length) (hx2 : xs.length ≤ 256) :
  Calls Tryz.prog 108 #[.pointer (some ⟨g, 0, none⟩), v] w fun e w' => ∃ x, x ∈ xs ∧ e = .returned (.int .i64 x) ∧ Drw W0 w' g ca n cap l ∧ Kept (fun b => b = g) w w' := by
 have HO := Lib.hid ho
 obtain ⟨a, c, rfl, hi⟩ := HO.out.form
 have HC := Lib.hid (l1Below_at W0 w g ca n cap l hB hn h xs.length (by omega))
 clear hB h hi ho
 go_enter Tryz.func108, Tryz.ntmps108
 go_wp2_with fail
 refine HC.out.mono ?_
 rintro e w1 ⟨x, hx, rfl, d1, k1⟩
 have D1 := Lib.hid d1
 have K1 := Lib.hid k1
 have HO1 : Hid (OwnInts w1 base (.slice a xs.length c) xs) := Lib.hid (k1.ownsRow HO.out fun k h1 h2 => by have := (HO.out.lt k h1).1; omega)
 clear d1 k1 HC
 obtain ⟨k, rfl⟩ : ∃ k : Nat, x = k := ⟨x.toNat, by omega⟩
 obtain ⟨a9, c9, e9, i9⟩ := HO1.out.form
 simp at e9
 obtain ⟨rfl, rfl⟩ := e9
 obtain ⟨b, off, y, rfl, hb, hy, hc⟩ := i9.2 k (by omega)
 have hki : (k : Int) < (xs.length : Int) := by omega
 have hk0 : (0 : Int) ≤ (k : Int) := by omega
 have HY := Lib.hid hy
 clear hy i9 hx
 go_wp2_with fail
 go_ret
 exact ⟨y, List.mem_of_getElem? HY.out, rfl, D1.out, K1.out⟩
end Go.Proofs.YtfbmpkdjhhcnpaaGreat

namespace Go.Proofs.YtfbmpkdjhhcnpaaGreat
open Go Go.RowKit

section
variable {P : Program} {ops : Array Oper} {Q : Exit → Act → World → Prop} {md : Region.Mode} {S : World → Prop} {L : Nat}

def wpAnyZ (P : Program) (md : Region.Mode) (ops : Array Oper) (Q : Exit → Act → World → Prop) (S : World → Prop) (L : Nat) : Nat → Array Bool → Act → World → Prop
 | 0, listed, a, w => Region.ready md ops listed = [] ∧ Q .normal a w
 | n + 1, listed, a, w =>
  (Region.ready md ops listed = [] → Q .normal a w) ∧
  ∀ i ∈ Region.ready md ops listed, wpOp P ops Q i (fun b u => ((listed.setIfInBounds i true).getD L false = true ∨ S u) ∧ wpAnyZ P md ops Q S L n (listed.setIfInBounds i true) b u) a w
theorem wpAnyZ_any : ∀ (n : Nat) (listed : Array Bool) (a : Act) (w : World), wpAnyZ P md ops Q S L n listed a w → wpAny P md ops Q n listed a w
 | 0, _, _, _, h => h
 | n + 1, _, _, _, h => ⟨h.1, fun i hi => wpOp_mono (fun b u hh => wpAnyZ_any n _ b u hh.2) (h.2 i hi)⟩
theorem unl_set {listed : Array Bool} {i : Nat} (h : listed.getD L true = false) (hne : i ≠ L) : (listed.setIfInBounds i true).getD L true = false := by
 rw [getD_set_ne true hne]; exact h
theorem unl_not {listed : Array Bool} (h : listed.getD L true = false) : ¬ listed.getD L false = true := by
 rw [getD_both h]; simp
theorem wpAnyZ_first {i : Nat} {oi : Oper} {v : Value} (hi : ops[i]? = some oi) (hsel : ∀ (j : Nat) (o : Oper) cs b, ops[j]? = some o → o.op ≠ .select cs b)
  (hQ : ∀ c a w, Q (.panic c) (a.put oi.dst v) w → Q (.panic c) a w) (hw : Region.waitsFor md ops L i = true) : ∀ (n : Nat) (listed : Array Bool) (a : Act) (w : World),
   (∀ j oj, ops[j]? = some oj → j ≠ i → listed.getD j true = false → (∀ e ∈ oj.after, Region.binds md e = true → e.on ≠ i) → oi.apart ops oj = true) →
   i ∈ Region.ready md ops listed → listed.getD L true = false → YieldsIf P ops S oi v a → S w →
   wpAnyZ P md ops Q S L n (listed.setIfInBounds i true) (a.put oi.dst v) w → wpAnyZ P md ops Q S L (n + 1) listed a w := by
 have key : ∀ (listed : Array Bool) (j : Nat), i ∈ Region.ready md ops listed → j ∈ Region.ready md ops listed → j ≠ L := by
  intro listed j hr hj e
  subst e
  obtain ⟨oj, hoj, e, he, hb, hon⟩ := Region.waitsFor_spec hw
  obtain ⟨_, oj', hoj', hall⟩ := mem_ready.1 hj
  rw [hoj] at hoj'
  simp only [Option.some.injEq] at hoj'
  subst hoj'
  have h1 := hall e he hb
  rw [hon] at h1
  exact unl_not (mem_ready.1 hr).1 h1
 intro n
 induction n with
 | zero =>
  intro listed a w _ hr _ hy hS H
  refine ⟨fun h => absurd hr (by rw [h]; simp), fun j hj => ?_⟩
  rcases Nat.decEq j i with hji | hji
  ·have := ready_mono hj hji
   rw [H.1] at this
   cases this
  ·subst hji; exact hy.wpOp hi hS ⟨.inr hS, H⟩
 | succ n ih =>
  intro listed a w hfree hr hL hy hS H
  refine ⟨fun h => absurd hr (by rw [h]; simp), fun j hj => ?_⟩
  rcases Nat.decEq j i with hji | hji
  ·obtain ⟨hjun, oj, hoj, hall⟩ := mem_ready.1 hj
   have hiL := key listed i hr hr
   have hjL := key listed j hr hj
   have hno : ∀ e ∈ oj.after, Region.binds md e = true → e.on ≠ i := fun e he hb hon => by
    have h1 := hall e he hb
    rw [hon] at h1
    exact unl_not (mem_ready.1 hr).1 h1
   refine wpOp_mono (fun b u h3 => ?_) (wpOp_putIf hoj (hfree j oj hoj hji hjun hno) (fun cs b => hsel i oi cs b hi) (fun cs b => hsel j oj cs b hoj) hQ hy (H.2 j (ready_mono hj hji)))
   obtain ⟨hy', hz, hrest⟩ := h3
   have hS' : S u := by
    rcases hz with hz | hz
    ·exact absurd hz (unl_not (unl_set (unl_set hL hiL) hjL))
    ·exact hz
   refine ⟨.inr hS', ih (listed.setIfInBounds j true) b u ?_ (ready_mono hr (Ne.symm hji)) (unl_set hL hjL) hy' hS' ?_⟩
   ·intro k ok hk hki hun hnk
    refine hfree k ok hk hki ?_ hnk
    rcases Nat.decEq j k with hjk | hjk
    ·rw [getD_set_ne true hjk] at hun; exact hun
    ·subst hjk; exact hjun
   ·rw [Array.setIfInBounds_comm _ _ hji]; exact hrest
  ·subst hji; exact hy.wpOp hi hS ⟨.inr hS, H⟩
theorem wpAnyZ_take {i : Nat} {oi : Oper} {v : Value} {n : Nat} {listed : Array Bool} {a : Act} {w : World} (hi : ops[i]? = some oi)
  (hs : Region.noSelect ops = true) (hf : Region.free md ops listed i = true) (hr : (Region.ready md ops listed).contains i = true) (hw : Region.waitsFor md ops L i = true) (hL : listed.getD L true = false)
  (hQ : ∀ c a w, Q (.panic c) (a.put oi.dst v) w → Q (.panic c) a w) (hS : S w) (hwant : Region.wanted oi (yielded ops a.tmps) = true) (hy : ∀ u, S u → (execOp a.eval oi).run P u = .ok (.value v) u)
  (h : wpAnyZ P md ops Q S L n (listed.setIfInBounds i true) (a.put oi.dst v) w) : wpAnyZ P md ops Q S L (n + 1) listed a w :=
 wpAnyZ_first hi (Region.noSelect_spec hs) hQ hw n listed a w (Region.free_spec hi hf) (by simpa using hr) hL (.inl ⟨hwant, hy⟩) hS h
theorem wpAnyZ_one {i : Nat} {oi : Oper} {n : Nat} {listed : Array Bool} {a : Act} {w : World} (hr : Region.ready md ops listed = [i]) (hi : ops[i]? = some oi) (hwant : Region.wanted oi (yielded ops a.tmps) = true)
  (h : Oper.wp P oi a w (fun b u => ((listed.setIfInBounds i true).getD L false = true ∨ S u) ∧ wpAnyZ P md ops Q S L n (listed.setIfInBounds i true) b u) Q) : wpAnyZ P md ops Q S L (n + 1) listed a w := by
 refine ⟨fun h0 => (by rw [hr] at h0; cases h0), fun j hj => ?_⟩
 rw [hr] at hj
 have : j = i := by simpa using hj
 subst this
 unfold wpOp
 rw [hi]
 dsimp only
 rw [if_pos hwant]
 exact .inl h
theorem wpAnyZ_step {i : Nat} {oi : Oper} {n : Nat} {listed : Array Bool} {a : Act} {w : World} (hr : Region.ready md ops listed = [i]) (hi : ops[i]? = some oi) (hwant : Region.wanted oi (yielded ops a.tmps) = true)
  (h : ∀ K : Act → World → Prop, Hid (∀ b u, ((listed.setIfInBounds i true).getD L false = true ∨ S u) → wpAnyZ P md ops Q S L n (listed.setIfInBounds i true) b u → K b u) → if Region.wanted oi (yielded ops a.tmps) = true then Oper.wp P oi a w K Q else K (a.put oi.dst undef) w) : wpAnyZ P md ops Q S L (n + 1) listed a w := by
 have h1 := h (fun b u => ((listed.setIfInBounds i true).getD L false = true ∨ S u) ∧ wpAnyZ P md ops Q S L n (listed.setIfInBounds i true) b u) (Lib.hid fun b u h1 h2 => ⟨h1, h2⟩)
 rw [if_pos hwant] at h1
 exact wpAnyZ_one hr hi hwant h1
theorem wpAnyZ_done {listed : Array Bool} {a : Act} {w : World} (hr : Region.ready md ops listed = []) (h : Q .normal a w) : ∀ n, wpAnyZ P md ops Q S L n listed a w
 | 0 => ⟨hr, h⟩
 | _ + 1 => ⟨fun _ => h, by rw [hr]; simp⟩
theorem wp_regionZ {id : Nat} {a : Act} {w : World} (S : World → Prop) (L : Nat) (hm : P.follows .mixedOrders = true)
  (h : wpAnyZ P .any ops Q S L ops.size (Array.replicate ops.size false) a w.drew) : (Code.region id ops true).wp P Q a w :=
 wp_region_any hm (wpAnyZ_any _ _ _ _ h)
end
end Go.Proofs.YtfbmpkdjhhcnpaaGreat

namespace Go.Proofs.YtfbmpkdjhhcnpaaGreat
open Go Go.RowKit
section
variable {P : Program} {ops : Array Oper} {Q : Exit → Act → World → Prop} {md : Region.Mode} {S : World → Prop} {L : Nat}
def chainB (md : Region.Mode) (ops : Array Oper) (i : Nat) : List Nat → Bool
 | [] => true
 | j :: C => Region.waitsFor md ops j i && chainB md ops j C
theorem chain_mem : ∀ (C : List Nat) (i : Nat), chainB md ops i C = true → ∀ c ∈ C, ∃ c' ∈ i :: C, Region.waitsFor md ops c c' = true
 | [], _, _, c, hc => absurd hc (by simp)
 | j :: C, i, h, c, hc => by
  unfold chainB at h
  simp only [Bool.and_eq_true] at h
  rcases List.mem_cons.1 hc with e | e
  ·subst e; exact ⟨i, List.mem_cons_self .., h.1⟩
  ·obtain ⟨c', h1, h2⟩ := chain_mem C j h.2 c e
   exact ⟨c', List.mem_cons_of_mem _ h1, h2⟩
theorem wpAnyZ_firstC {i : Nat} {oi : Oper} {v : Value} {C : List Nat} (hi : ops[i]? = some oi) (hsel : ∀ (j : Nat) (o : Oper) cs b, ops[j]? = some o → o.op ≠ .select cs b)
  (hQ : ∀ c a w, Q (.panic c) (a.put oi.dst v) w → Q (.panic c) a w) (hw : chainB md ops i C = true) (hLC : L ∈ C) : ∀ (n : Nat) (listed : Array Bool) (a : Act) (w : World),
   (∀ j oj, ops[j]? = some oj → j ≠ i → listed.getD j true = false → (∀ e ∈ oj.after, Region.binds md e = true → e.on ≠ i) → oi.apart ops oj = true) →
   i ∈ Region.ready md ops listed → (∀ c ∈ C, listed.getD c true = false) → YieldsIf P ops S oi v a → S w →
   wpAnyZ P md ops Q S L n (listed.setIfInBounds i true) (a.put oi.dst v) w → wpAnyZ P md ops Q S L (n + 1) listed a w := by
 have key : ∀ (listed : Array Bool) (j : Nat), i ∈ Region.ready md ops listed → (∀ c ∈ C, listed.getD c true = false) → j ∈ Region.ready md ops listed → j ∉ C := by
  intro listed j hr hun hj hjC
  obtain ⟨c', hc', hwt⟩ := chain_mem C i hw j hjC
  obtain ⟨oj, hoj, e, he, hb, hon⟩ := Region.waitsFor_spec hwt
  obtain ⟨_, oj', hoj', hall⟩ := mem_ready.1 hj
  rw [hoj] at hoj'
  simp only [Option.some.injEq] at hoj'
  subst hoj'
  have h1 := hall e he hb
  rw [hon] at h1
  rcases List.mem_cons.1 hc' with e1 | e1
  ·subst e1; exact unl_not (mem_ready.1 hr).1 h1
  ·exact unl_not (hun c' e1) h1
 intro n
 induction n with
 | zero =>
  intro listed a w _ hr _ hy hS H
  refine ⟨fun h => absurd hr (by rw [h]; simp), fun j hj => ?_⟩
  rcases Nat.decEq j i with hji | hji
  ·have := ready_mono hj hji
   rw [H.1] at this
   cases this
  ·subst hji; exact hy.wpOp hi hS ⟨.inr hS, H⟩
 | succ n ih =>
  intro listed a w hfree hr hL hy hS H
  refine ⟨fun h => absurd hr (by rw [h]; simp), fun j hj => ?_⟩
  rcases Nat.decEq j i with hji | hji
  ·obtain ⟨hjun, oj, hoj, hall⟩ := mem_ready.1 hj
   have hiC := key listed i hr hL hr
   have hjC := key listed j hr hL hj
   have hiL : i ≠ L := fun e => hiC (e ▸ hLC)
   have hjL : j ≠ L := fun e => hjC (e ▸ hLC)
   have hno : ∀ e ∈ oj.after, Region.binds md e = true → e.on ≠ i := fun e he hb hon => by
    have h1 := hall e he hb
    rw [hon] at h1
    exact unl_not (mem_ready.1 hr).1 h1
   refine wpOp_mono (fun b u h3 => ?_) (wpOp_putIf hoj (hfree j oj hoj hji hjun hno) (fun cs b => hsel i oi cs b hi) (fun cs b => hsel j oj cs b hoj) hQ hy (H.2 j (ready_mono hj hji)))
   obtain ⟨hy', hz, hrest⟩ := h3
   have hS' : S u := by
    rcases hz with hz | hz
    ·exact absurd hz (unl_not (unl_set (unl_set (hL L hLC) hiL) hjL))
    ·exact hz
   refine ⟨.inr hS', ih (listed.setIfInBounds j true) b u ?_ (ready_mono hr (Ne.symm hji)) (fun c hc => unl_set (hL c hc) fun e => hjC (e ▸ hc)) hy' hS' ?_⟩
   ·intro k ok hk hki hun hnk
    refine hfree k ok hk hki ?_ hnk
    rcases Nat.decEq j k with hjk | hjk
    ·rw [getD_set_ne true hjk] at hun; exact hun
    ·subst hjk; exact hjun
   ·rw [Array.setIfInBounds_comm _ _ hji]; exact hrest
  ·subst hji; exact hy.wpOp hi hS ⟨.inr hS, H⟩
theorem wpAnyZ_takeC {i : Nat} {oi : Oper} {v : Value} {n : Nat} {listed : Array Bool} {a : Act} {w : World} (C : List Nat) (hi : ops[i]? = some oi)
  (hs : Region.noSelect ops = true) (hf : Region.free md ops listed i = true) (hr : (Region.ready md ops listed).contains i = true) (hw : chainB md ops i C = true) (hLC : C.contains L = true) (hL : (C.all fun c => !listed.getD c true) = true)
  (hQ : ∀ c a w, Q (.panic c) (a.put oi.dst v) w → Q (.panic c) a w) (hS : S w) (hwant : Region.wanted oi (yielded ops a.tmps) = true) (hy : ∀ u, S u → (execOp a.eval oi).run P u = .ok (.value v) u)
  (h : wpAnyZ P md ops Q S L n (listed.setIfInBounds i true) (a.put oi.dst v) w) : wpAnyZ P md ops Q S L (n + 1) listed a w :=
 wpAnyZ_firstC (C := C) hi (Region.noSelect_spec hs) hQ hw (by simpa using hLC) n listed a w (Region.free_spec hi hf) (by simpa using hr) (fun c hc => by simpa using List.all_eq_true.1 hL c hc) (.inl ⟨hwant, hy⟩) hS h
theorem wpAnyZ_skip {i : Nat} {oi : Oper} {n : Nat} {listed : Array Bool} {a : Act} {w : World} (C : List Nat) (hi : ops[i]? = some oi)
  (hs : Region.noSelect ops = true) (hf : Region.free md ops listed i = true) (hr : (Region.ready md ops listed).contains i = true) (hw : chainB md ops i C = true) (hLC : C.contains L = true) (hL : (C.all fun c => !listed.getD c true) = true)
  (hQ : ∀ c a w, Q (.panic c) (a.put oi.dst undef) w → Q (.panic c) a w) (hS : S w) (hwant : Region.wanted oi (yielded ops a.tmps) = false)
  (h : wpAnyZ P md ops Q S L n (listed.setIfInBounds i true) (a.put oi.dst undef) w) : wpAnyZ P md ops Q S L (n + 1) listed a w :=
 wpAnyZ_firstC (C := C) hi (Region.noSelect_spec hs) hQ hw (by simpa using hLC) n listed a w (Region.free_spec hi hf) (by simpa using hr) (fun c hc => by simpa using List.all_eq_true.1 hL c hc) (.inr ⟨hwant, rfl⟩) hS h
theorem wpAnyZ_not {i : Nat} {oi : Oper} {n : Nat} {listed : Array Bool} {a : Act} {w : World} (hr : Region.ready md ops listed = [i]) (hi : ops[i]? = some oi) (hwant : Region.wanted oi (yielded ops a.tmps) = false)
  (hS : (listed.setIfInBounds i true).getD L false = true ∨ S w)
  (h : wpAnyZ P md ops Q S L n (listed.setIfInBounds i true) (a.put oi.dst undef) w) : wpAnyZ P md ops Q S L (n + 1) listed a w := by
 refine ⟨fun h0 => (by rw [hr] at h0; cases h0), fun j hj => ?_⟩
 rw [hr] at hj
 have : j = i := by simpa using hj
 subst this
 unfold wpOp
 rw [hi]
 dsimp only
 rw [if_neg (by rw [hwant]; simp)]
 exact ⟨hS, h⟩
end
end Go.Proofs.YtfbmpkdjhhcnpaaGreat

