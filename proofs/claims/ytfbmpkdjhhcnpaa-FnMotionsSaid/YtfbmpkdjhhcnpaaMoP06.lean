/- Regions that draw their order: operations that a guard leaves out; operations that the last one waits for by way of others. No program in sight. -/
import Derived.Test.YtfbmpkdjhhcnpaaMoP05
import Derived.Test.YtfbmpkdjhhcnpaaMoP02
import Derived.Test.YtfbmpkdjhhcnpaaMoP01
import Derived.Laws.StructEq
namespace Go.Proofs.Ytfbmpkdjhhcnpaa
open Go Go.RowKit
section
variable {P : Program} {ops : Array Oper} {Q : Exit → Act → World → Prop} {md : Region.Mode} {S : World → Prop} {L : Nat}
/-- each number waits for the one ahead of it -/
def chainB (md : Region.Mode) (ops : Array Oper) (i : Nat) : List Nat → Bool
  | [] => true
  | j :: C => Region.waitsFor md ops j i && chainB md ops j C
theorem chain_mem : ∀ (C : List Nat) (i : Nat), chainB md ops i C = true → ∀ c ∈ C, ∃ c' ∈ i :: C, Region.waitsFor md ops c c' = true
  | [], _, _, c, hc => absurd hc (by simp)
  | j :: C, i, h, c, hc => by
    unfold chainB at h
    simp only [Bool.and_eq_true] at h
    rcases List.mem_cons.1 hc with e | e
    · subst e; exact ⟨i, List.mem_cons_self .., h.1⟩
    · obtain ⟨c', h1, h2⟩ := chain_mem C j h.2 c e
      exact ⟨c', List.mem_cons_of_mem _ h1, h2⟩
theorem wpAnyZ_firstC {i : Nat} {oi : Oper} {v : Value} {C : List Nat} (hi : ops[i]? = some oi) (hsel : ∀ (j : Nat) (o : Oper) cs b, ops[j]? = some o → o.op ≠ .select cs b)
    (hQ : ∀ c a w, Q (.panic c) (a.put oi.dst v) w → Q (.panic c) a w) (hw : chainB md ops i C = true) (hLC : L ∈ C) : ∀ (n : Nat) (listed : Array Bool) (a : Act) (w : World),
      (∀ j oj, ops[j]? = some oj → j ≠ i → listed.getD j true = false → (∀ e ∈ oj.after, Region.binds md e = true → e.on ≠ i) → oi.apart ops oj = true) →
      i ∈ Region.ready md ops listed → (∀ c ∈ C, listed.getD c true = false) → YieldsIf P ops S oi v a → S w →
      wpAnyZ P md ops Q S L n (listed.setIfInBounds i true) (a.put oi.dst v) w → wpAnyZ P md ops Q S L (n + 1) listed a w := by
  have key : ∀ (listed : Array Bool) (j : Nat), i ∈ Region.ready md ops listed → (∀ c ∈ C, listed.getD c true = false) → j ∈ Region.ready md ops listed → j ∉ C := by
    intro listed j hr hun hj hjC
    obtain ⟨c', hc', hwt⟩ := chain_mem C i hw j hjC
    obtain ⟨oj, hoj, e, he, hb, hon⟩ := Region.waitsFor_spec hwt
    obtain ⟨_, oj', hoj', hall⟩ := mem_ready.1 hj
    rw [hoj] at hoj'
    simp only [Option.some.injEq] at hoj'
    subst hoj'
    have h1 := hall e he hb
    rw [hon] at h1
    rcases List.mem_cons.1 hc' with e1 | e1
    · subst e1; exact unl_not (mem_ready.1 hr).1 h1
    · exact unl_not (hun c' e1) h1
  intro n
  induction n with
  | zero =>
    intro listed a w _ hr _ hy hS H
    refine ⟨fun h => absurd hr (by rw [h]; simp), fun j hj => ?_⟩
    rcases Nat.decEq j i with hji | hji
    · have := ready_mono hj hji
      rw [H.1] at this
      cases this
    · subst hji; exact hy.wpOp hi hS ⟨.inr hS, H⟩
  | succ n ih =>
    intro listed a w hfree hr hL hy hS H
    refine ⟨fun h => absurd hr (by rw [h]; simp), fun j hj => ?_⟩
    rcases Nat.decEq j i with hji | hji
    · obtain ⟨hjun, oj, hoj, hall⟩ := mem_ready.1 hj
      have hiC := key listed i hr hL hr
      have hjC := key listed j hr hL hj
      have hiL : i ≠ L := fun e => hiC (e ▸ hLC)
      have hjL : j ≠ L := fun e => hjC (e ▸ hLC)
      have hno : ∀ e ∈ oj.after, Region.binds md e = true → e.on ≠ i := fun e he hb hon => by
        have h1 := hall e he hb
        rw [hon] at h1
        exact unl_not (mem_ready.1 hr).1 h1
      refine wpOp_mono (fun b u h3 => ?_) (wpOp_putIf hoj (hfree j oj hoj hji hjun hno) (fun cs b => hsel i oi cs b hi) (fun cs b => hsel j oj cs b hoj) hQ hy (H.2 j (ready_mono hj hji)))
      obtain ⟨hy', hz, hrest⟩ := h3
      have hS' : S u := by
        rcases hz with hz | hz
        · exact absurd hz (unl_not (unl_set (unl_set (hL L hLC) hiL) hjL))
        · exact hz
      refine ⟨.inr hS', ih (listed.setIfInBounds j true) b u ?_ (ready_mono hr (Ne.symm hji)) (fun c hc => unl_set (hL c hc) fun e => hjC (e ▸ hc)) hy' hS' ?_⟩
      · intro k ok hk hki hun hnk
        refine hfree k ok hk hki ?_ hnk
        rcases Nat.decEq j k with hjk | hjk
        · rw [getD_set_ne true hjk] at hun; exact hun
        · subst hjk; exact hjun
      · rw [Array.setIfInBounds_comm _ _ hji]; exact hrest
    · subst hji; exact hy.wpOp hi hS ⟨.inr hS, H⟩
theorem wpAnyZ_takeC {i : Nat} {oi : Oper} {v : Value} {n : Nat} {listed : Array Bool} {a : Act} {w : World} (C : List Nat) (hi : ops[i]? = some oi)
    (hs : Region.noSelect ops = true) (hf : Region.free md ops listed i = true) (hr : (Region.ready md ops listed).contains i = true) (hw : chainB md ops i C = true) (hLC : C.contains L = true) (hL : (C.all fun c => !listed.getD c true) = true)
    (hQ : ∀ c a w, Q (.panic c) (a.put oi.dst v) w → Q (.panic c) a w) (hS : S w) (hwant : Region.wanted oi (yielded ops a.tmps) = true) (hy : ∀ u, S u → (execOp a.eval oi).run P u = .ok (.value v) u)
    (h : wpAnyZ P md ops Q S L n (listed.setIfInBounds i true) (a.put oi.dst v) w) : wpAnyZ P md ops Q S L (n + 1) listed a w :=
  wpAnyZ_firstC (C := C) hi (Region.noSelect_spec hs) hQ hw (by simpa using hLC) n listed a w (Region.free_spec hi hf) (by simpa using hr) (fun c hc => by simpa using List.all_eq_true.1 hL c hc) (.inl ⟨hwant, hy⟩) hS h
theorem wpAnyZ_skip {i : Nat} {oi : Oper} {n : Nat} {listed : Array Bool} {a : Act} {w : World} (C : List Nat) (hi : ops[i]? = some oi)
    (hs : Region.noSelect ops = true) (hf : Region.free md ops listed i = true) (hr : (Region.ready md ops listed).contains i = true) (hw : chainB md ops i C = true) (hLC : C.contains L = true) (hL : (C.all fun c => !listed.getD c true) = true)
    (hQ : ∀ c a w, Q (.panic c) (a.put oi.dst undef) w → Q (.panic c) a w) (hS : S w) (hwant : Region.wanted oi (yielded ops a.tmps) = false)
    (h : wpAnyZ P md ops Q S L n (listed.setIfInBounds i true) (a.put oi.dst undef) w) : wpAnyZ P md ops Q S L (n + 1) listed a w :=
  wpAnyZ_firstC (C := C) hi (Region.noSelect_spec hs) hQ hw (by simpa using hLC) n listed a w (Region.free_spec hi hf) (by simpa using hr) (fun c hc => by simpa using List.all_eq_true.1 hL c hc) (.inr ⟨hwant, rfl⟩) hS h
/-- one alone may come up, and a guard leaves it out -/
theorem wpAnyZ_not {i : Nat} {oi : Oper} {n : Nat} {listed : Array Bool} {a : Act} {w : World} (hr : Region.ready md ops listed = [i]) (hi : ops[i]? = some oi) (hwant : Region.wanted oi (yielded ops a.tmps) = false)
    (hS : (listed.setIfInBounds i true).getD L false = true ∨ S w)
    (h : wpAnyZ P md ops Q S L n (listed.setIfInBounds i true) (a.put oi.dst undef) w) : wpAnyZ P md ops Q S L (n + 1) listed a w := by
  refine ⟨fun h0 => (by rw [hr] at h0; cases h0), fun j hj => ?_⟩
  rw [hr] at hj
  have : j = i := by simpa using hj
  subst this
  unfold wpOp
  rw [hi]
  dsimp only
  rw [if_neg (by rw [hwant]; simp)]
  exact ⟨hS, h⟩
end
end Go.Proofs.Ytfbmpkdjhhcnpaa

namespace Go.Proofs.Ytfbmpkdjhhcnpaa
open Go.RowKit
set_option maxRecDepth 100000
set_option linter.unusedVariables false
set_option linter.unusedSimpArgs false

abbrev BarT := Int × Int
def cellsBar (x : BarT) : List Value := [.int .i64 x.1, .int .i64 x.2]
def aggBar (x : BarT) : Value := .agg #[.int .i64 x.1, .int .i64 x.2]
theorem cellsBar_length (x : BarT) : (cellsBar x).length = 2 := rfl

theorem infoBar : (Try.prog.info? 56).map (fun i => (i.zero, i.size, i.bytes)) = some (some (.agg #[.int .i64 0, .int .i64 0]), 2, 16) := by kernel_rfl

/-- The slice value (a, n) reads as l. -/
def BarsAt (W : World) (a : Option Addr) (n : Nat) (l : List BarT) : Prop :=
  l.length = n ∧ ∀ k, k < n → ∃ b off, ∃ x : BarT, a = some ⟨b, off, none⟩ ∧ b < W.heap.size ∧ l[k]? = some x ∧ W.cell? ⟨b, off + k * 2, none⟩ = some (.int .i64 x.1) ∧ W.cell? ⟨b, off + k * 2 + 1, none⟩ = some (.int .i64 x.2)
theorem BarsAt.below {W W' : World} {a : Option Addr} {n : Nat} {l : List BarT} (h : BarsAt W a n l) (hk : Below W.heap.size W W') : BarsAt W' a n l :=
  ⟨h.1, fun k hkn => by
    obtain ⟨b, off, x, ha, hb, hx, c0, c1⟩ := h.2 k hkn
    exact ⟨b, off, x, ha, Nat.lt_of_lt_of_le hb hk.size, hx, (hk.cell (p := ⟨b, off + k * 2, none⟩) hb).trans c0, (hk.cell (p := ⟨b, off + k * 2 + 1, none⟩) hb).trans c1⟩⟩

def OwnBars (W : World) (base : Nat) (v : Value) (l : List BarT) : Prop := W.ownsRow base 56 2 v l.length (l.flatMap cellsBar)
def IsBars (W : World) (v : Value) (l : List BarT) : Prop := ∃ a cap, v = .slice a l.length cap ∧ BarsAt W a l.length l
theorem IsBars.below {W W' : World} {v : Value} {l : List BarT} (h : IsBars W v l) (hb : Below W.heap.size W W') : IsBars W' v l := by
  obtain ⟨a, cap, rfl, hi⟩ := h
  exact ⟨a, cap, rfl, hi.below hb⟩
theorem ownBars_cell {W : World} {base g n cap : Nat} {l : List BarT} (h : W.ownsRow base 56 2 (.slice (some ⟨g, 0, none⟩) n cap) n (l.flatMap cellsBar)) {k : Nat} {x : BarT} (hx : l[k]? = some x) (hk : k < n) (j : Nat) (hj : j < 2) :
    W.cell? ⟨g, k * 2 + j, none⟩ = (cellsBar x)[j]? := by
  rw [World.ownsRow.cellAt h (k * 2 + j) (by omega)]
  exact flat_get cellsBar_length hx hj
theorem OwnBars.form {W : World} {base : Nat} {v : Value} {l : List BarT} (h : OwnBars W base v l) : IsBars W v l := by
  rcases h.2 with ⟨rfl, h0⟩ | ⟨g, cap, cur, rfl, hb, hg, hnc, hcm, hcs, htake⟩
  · exact ⟨none, 0, by rw [h0], rfl, fun k hk => by omega⟩
  · refine ⟨_, cap, rfl, rfl, fun k hk => ⟨g, 0, l[k], rfl, (Array.getElem?_eq_some_iff.1 hg).1, by simp [hk], ?_⟩⟩
    have H := fun j hj => ownBars_cell (W := W) (base := base) h (k := k) (x := l[k]) (by simp [hk]) hk j hj
    exact ⟨by have := H 0 (by omega); simpa [cellsBar] using this, by have := H 1 (by omega); simpa [cellsBar] using this⟩
theorem OwnBars.lt {W : World} {base : Nat} {v : Value} {l : List BarT} (h : OwnBars W base v l) : ∀ k, v.ownBlock = some k → base ≤ k ∧ k < W.heap.size := World.ownsRow.lt h
def RetBars (W : World) (l : List BarT) (e : Ending) (w' : World) : Prop := ∃ v, e = .returned v ∧ OwnBars w' W.heap.size v l ∧ Below W.heap.size W w'
def HBars (W : World) (lo hi : Nat) (v : Value) (l : List BarT) : Prop := OwnBars W lo v l ∧ ∀ k, v.ownBlock = some k → k < hi
theorem HBars.is {W : World} {lo hi : Nat} {v : Value} {l : List BarT} (h : HBars W lo hi v l) : IsBars W v l := h.1.form
theorem HBars.kept {W W' : World} {lo hi : Nat} {v : Value} {l : List BarT} {S : Nat → Prop} (h : HBars W lo hi v l) (hk : Kept S W W') (hd : ∀ k, lo ≤ k → k < hi → ¬ S k) : HBars W' lo hi v l :=
  ⟨hk.ownsRow h.1 fun k hkk => hd k (h.1.lt k hkk).1 (h.2 k hkk), h.2⟩
theorem HBars.below {W W' : World} {lo hi : Nat} {v : Value} {l : List BarT} (h : HBars W lo hi v l) (hb : Below W.heap.size W W') : HBars W' lo hi v l := h.kept (Kept.of_below (S := fun _ => False) hb) fun _ _ _ => id
theorem OwnBars.h {W : World} {lo : Nat} {v : Value} {l : List BarT} (h : OwnBars W lo v l) : HBars W lo W.heap.size v l := ⟨h, fun k hk => (h.lt k hk).2⟩

theorem below2aBar {w : World} {o1 o2 : Obj} : Below w.heap.size w ((w.alloc o1).alloc o2) := ((Below.refl _ w).alloc (Nat.le_refl _) o1).alloc (by simp) o2
theorem guardBar : Try.prog.eqGuardType Try.prog.depth 56 = false := by kernel_rfl
theorem neqBar_run (w : World) (x1 x2 y1 y2 : Int) :
    (binOp .neq 56 (.agg #[.int .i64 x1, .int .i64 x2]) (.agg #[.int .i64 y1, .int .i64 y2])).run Try.prog w = .ok (.bool (!(decide (((x1, x2) : BarT) = (y1, y2))))) w := by
  have u3 := Try.underlying3
  have hS : Try.prog.underlying 56 = some (.struct (Try.prog.fieldsOf 56)) := by kernel_rfl
  have hp : Try.prog.stoodInHeld 56 = false := by kernel_rfl
  rw [run_neq_struct, show (10000 : Nat) = 9999 + 1 from rfl, run_equalIn_agg w 9999 56 _ _ hS hp]
  simp only [Program.fieldsOf, Try.underlying56]
  go_simp
  by_cases h0 : x1 = y1 <;> by_cases h1 : x2 = y2 <;> simp [h0, h1]
theorem eqlBar_run (w : World) (x1 x2 y1 y2 : Int) :
    (binOp .eql 56 (.agg #[.int .i64 x1, .int .i64 x2]) (.agg #[.int .i64 y1, .int .i64 y2])).run Try.prog w = .ok (.bool (decide (((x1, x2) : BarT) = (y1, y2)))) w := by
  have u3 := Try.underlying3
  have hS : Try.prog.underlying 56 = some (.struct (Try.prog.fieldsOf 56)) := by kernel_rfl
  have hp : Try.prog.stoodInHeld 56 = false := by kernel_rfl
  rw [run_eql_struct, show (10000 : Nat) = 9999 + 1 from rfl, run_equalIn_agg w 9999 56 _ _ hS hp]
  simp only [Program.fieldsOf, Try.underlying56]
  go_simp
  by_cases h0 : x1 = y1 <;> by_cases h1 : x2 = y2 <;> simp [h0, h1]
theorem neqBar_t {x1 x2 y1 y2 : Int} (h : ((x1, x2) : BarT) = (y1, y2)) (w : World) : (binOp .neq 56 (.agg #[.int .i64 x1, .int .i64 x2]) (.agg #[.int .i64 y1, .int .i64 y2])).run Try.prog w = .ok (.bool false) w := by rw [neqBar_run, decide_eq_true h]; rfl
theorem neqBar_f {x1 x2 y1 y2 : Int} (h : ¬ ((x1, x2) : BarT) = (y1, y2)) (w : World) : (binOp .neq 56 (.agg #[.int .i64 x1, .int .i64 x2]) (.agg #[.int .i64 y1, .int .i64 y2])).run Try.prog w = .ok (.bool true) w := by rw [neqBar_run, decide_eq_false h]; rfl
theorem eqlBar_t {x1 x2 y1 y2 : Int} (h : ((x1, x2) : BarT) = (y1, y2)) (w : World) : (binOp .eql 56 (.agg #[.int .i64 x1, .int .i64 x2]) (.agg #[.int .i64 y1, .int .i64 y2])).run Try.prog w = .ok (.bool true) w := by rw [eqlBar_run, decide_eq_true h]
theorem eqlBar_f {x1 x2 y1 y2 : Int} (h : ¬ ((x1, x2) : BarT) = (y1, y2)) (w : World) : (binOp .eql 56 (.agg #[.int .i64 x1, .int .i64 x2]) (.agg #[.int .i64 y1, .int .i64 y2])).run Try.prog w = .ok (.bool false) w := by rw [eqlBar_run, decide_eq_false h]

theorem madeCells_Bar (n : Nat) : (madeCells #[.int .i64 0, .int .i64 0] (n * 2)).toList = (List.replicate n ((0, 0) : BarT)).flatMap cellsBar := by
  have h : (List.replicate n ((0, 0) : BarT)).flatMap cellsBar = List.replicate (n * 2) (.int .i64 0) := by
    induction n with
    | zero => rfl
    | succ n ih => rw [List.replicate_succ, List.flatMap_cons, ih, Nat.succ_mul, Nat.add_comm, ← List.replicate_append_replicate]; rfl
  rw [h]
  apply List.ext_getElem?
  intro j
  by_cases hj : j < n * 2
  · have hm : j % 2 < 2 := Nat.mod_lt _ (by omega)
    generalize hq : j % 2 = q at hm
    have hq' : ∀ (z : Array Value), z.size = 2 → z[j % z.size]! = z[q]! := fun z hz => by rw [hz, hq]
    simp only [madeCells, Array.toList_map, List.getElem?_map, Array.toList_range, List.getElem?_range hj, Option.map_some, List.getElem?_replicate, if_pos hj]
    rw [hq' _ rfl]
    match q, hm with
    | 0, _ => rfl
    | 1, _ => rfl
  · rw [List.getElem?_eq_none (by simp [size_madeCells]; omega), List.getElem?_eq_none (by simp; omega)]

def OkBars (l : List BarT) : Prop := l.length ≤ 9223372036854775807 ∧ ∀ x ∈ l, (-9223372036854775808 ≤ x.1 ∧ x.1 ≤ 9223372036854775807) ∧ (-9223372036854775808 ≤ x.2 ∧ x.2 ≤ 9223372036854775807)
/-- the j-th of the marked elements -/
def markBar (k : Int) (j : Nat) : BarT := (k + 2 * (j : Int), k + 2 * (j : Int) + 1)
def cntBars (l : List BarT) : Nat := 2 * l.length
theorem cntBars_le (l : List BarT) : cntBars l ≤ 2 * l.length := Nat.le_refl _
def mkdBars (k : Int) (l : List BarT) : List BarT := (List.range l.length).map (markBar k)
theorem mkdBars_length (k : Int) (l : List BarT) : (mkdBars k l).length = l.length := by simp [mkdBars]
theorem mkdBars_get {k : Int} {l : List BarT} {j : Nat} (h : j < l.length) : (mkdBars k l)[j]? = some (markBar k j) := by simp [mkdBars, h]
def mkToBars (k : Int) (l : List BarT) (j : Nat) : List BarT := (mkdBars k l).take j ++ l.drop j
theorem mkToBars_zero (k : Int) (l : List BarT) : mkToBars k l 0 = l := by simp [mkToBars]
theorem mkToBars_all (k : Int) (l : List BarT) : mkToBars k l l.length = mkdBars k l := by
  simp [mkToBars, List.take_of_length_le (Nat.le_of_eq (mkdBars_length k l))]
theorem mkToBars_length {k : Int} {l : List BarT} {j : Nat} (h : j ≤ l.length) : (mkToBars k l j).length = l.length := by simp [mkToBars, mkdBars_length]; omega
theorem mkToBars_succ {k : Int} {l : List BarT} {j : Nat} (hj : j < l.length) : (mkToBars k l j).set j (markBar k j) = mkToBars k l (j + 1) := by
  unfold mkToBars
  rw [take_succ_of (mkdBars_get hj), List.set_append_right _ _ (by simp [mkdBars_length]; omega)]
  obtain ⟨x, s, h1, h2⟩ : ∃ x s, l.drop j = x :: s ∧ l.drop (j + 1) = s := ⟨_, _, List.drop_eq_getElem_cons hj, rfl⟩
  rw [h1, h2]
  simp [mkdBars_length, Nat.min_eq_left (Nat.le_of_lt hj)]

theorem setBar_seg {W : World} {base g n cap : Nat} {l : List BarT} {j : Nat} (h : W.ownsRow base 56 2 (.slice (some ⟨g, 0, none⟩) n cap) n (l.flatMap cellsBar)) (x : BarT) (hj : j < l.length) :
    (((W.setCell ⟨g, j * 2, none⟩ (.int .i64 x.1)).setCell ⟨g, j * 2 + 1, none⟩ (.int .i64 x.2))).ownsRow base 56 2 (.slice (some ⟨g, 0, none⟩) n cap) n ((l.set j x).flatMap cellsBar) ∧ W.grownBy (((W.setCell ⟨g, j * 2, none⟩ (.int .i64 x.1)).setCell ⟨g, j * 2 + 1, none⟩ (.int .i64 x.2))) (some g) := by
  have s0 := World.ownsRow.stored h (j * 2) (.int .i64 x.1)
  have s1 := World.ownsRow.stored s0.1 (j * 2 + 1) (.int .i64 x.2)
  have hlen := flat_length cellsBar_length l
  have hjl : j * 2 + 2 ≤ l.length * 2 := by rw [← Nat.succ_mul]; exact Nat.mul_le_mul_right _ hj
  have e0 : (l.flatMap cellsBar) = (l.flatMap cellsBar).take (j * 2) ++ [] ++ (l.flatMap cellsBar).drop (j * 2 + 0) := by simp
  have e1 := seg_set (l.flatMap cellsBar) (j * 2) [] (.int .i64 x.1) (by simp only [List.length_cons, List.length_nil, hlen]; omega)
  have e2 := seg_set (l.flatMap cellsBar) (j * 2) [.int .i64 x.1] (.int .i64 x.2) (by simp only [List.length_cons, List.length_nil, hlen]; omega)
  refine ⟨?_, (s0.2.trans s1.2)⟩
  rw [← flat_set (c := cellsBar) (a := x) cellsBar_length hj]
  have e9 := s1.1
  rw [show (l.flatMap cellsBar).set (j * 2) (.int .i64 x.1) = (l.flatMap cellsBar).take (j * 2) ++ [.int .i64 x.1] ++ (l.flatMap cellsBar).drop (j * 2 + 1) from by have h9 := e1; simp only [List.length_nil] at h9; rwa [← e0] at h9, show ((l.flatMap cellsBar).take (j * 2) ++ [.int .i64 x.1] ++ (l.flatMap cellsBar).drop (j * 2 + 1) : List Value).set (j * 2 + 1) (.int .i64 x.2) = (l.flatMap cellsBar).take (j * 2) ++ [.int .i64 x.1, .int .i64 x.2] ++ (l.flatMap cellsBar).drop (j * 2 + 2) from e2] at e9
  exact e9


end Go.Proofs.Ytfbmpkdjhhcnpaa

