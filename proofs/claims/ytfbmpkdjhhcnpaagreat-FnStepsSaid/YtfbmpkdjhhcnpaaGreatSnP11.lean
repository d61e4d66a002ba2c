/- Regions that draw their order, where several operations may come up and what they yield hangs on the order: a walk over the states of the region. No program in sight. -/
import Derived.Test.YtfbmpkdjhhcnpaaGreatSnP10
import Derived.Test.YtfbmpkdjhhcnpaaGreatSnP02
import Derived.Deep.RegionHeld3
import Derived.Test.YtfbmpkdjhhcnpaaGreatSnP07
import Derived.BigRegion
import Derived.Laws.MakeOwn
import Derived.Test.YtfbmpkdjhhcnpaaGreatSnP09
import Derived.Test.YtfbmpkdjhhcnpaaGreatSnP06
namespace Go.Proofs.YtfbmpkdjhhcnpaaGreat
open Go Go.RowKit
set_option maxRecDepth 100000
set_option linter.unusedSimpArgs false
set_option linter.unusedVariables false

section
variable {P : Program} {ops : Array Oper} {Q : Exit → Act → World → Prop} {md : Region.Mode} {S : World → Prop} {L : Nat}
def StepZ (P : Program) (ops : Array Oper) (Q : Exit → Act → World → Prop) (S : World → Prop) (L : Nat) (Z : Array Bool → Act → World → Prop) (listed : Array Bool) (a : Act) (w : World) (i : Nat) : Prop :=
 ∃ oi, ops[i]? = some oi ∧ Region.wanted oi (yielded ops a.tmps) = true ∧ ∀ K : Act → World → Prop, Hid (∀ b u, ((listed.setIfInBounds i true).getD L false = true ∨ S u) → Z (listed.setIfInBounds i true) b u → K b u) → if Region.wanted oi (yielded ops a.tmps) = true then Oper.wp P oi a w K Q else K (a.put oi.dst undef) w
theorem wpAnyZ_node {n : Nat} {listed : Array Bool} {a : Act} {w : World} (r : List Nat) (hr : Region.ready md ops listed = r) (hne : r ≠ []) (h : ∀ i ∈ r, StepZ P ops Q S L (fun ls b u => wpAnyZ P md ops Q S L n ls b u) listed a w i) : wpAnyZ P md ops Q S L (n + 1) listed a w := by
 refine ⟨fun h0 => absurd (hr.symm.trans h0) hne, fun j hj => ?_⟩
 rw [hr] at hj
 obtain ⟨oi, hi, hw, hst⟩ := h j hj
 have h1 := hst (fun b u => ((listed.setIfInBounds j true).getD L false = true ∨ S u) ∧ wpAnyZ P md ops Q S L n (listed.setIfInBounds j true) b u) (Lib.hid fun b u h1 h2 => ⟨h1, h2⟩)
 rw [if_pos hw] at h1
 unfold wpOp
 rw [hi]
 dsimp only
 rw [if_pos hw]
 exact .inl h1
theorem wpAnyZ_abs {n : Nat} {listed : Array Bool} {a : Act} {w : World} (h : ∀ Z : Nat → Array Bool → Act → World → Prop,
  Hid (∀ n ls a w r, Region.ready md ops ls = r → r ≠ [] → (∀ i ∈ r, StepZ P ops Q S L (Z n) ls a w i) → Z (n + 1) ls a w) →
  Hid (∀ n ls a w, Region.ready md ops ls = [] → Q .normal a w → Z n ls a w) → Z n listed a w) : wpAnyZ P md ops Q S L n listed a w :=
 h (fun n ls a w => wpAnyZ P md ops Q S L n ls a w) (Lib.hid fun _ _ _ _ r hr hne hs => wpAnyZ_node r hr hne hs) (Lib.hid fun n _ _ _ hr hq => wpAnyZ_done hr hq n)
end

theorem stepAppInts {w : World} {ops : Array Oper} {o : Oper} {a : Act} {K : Act → World → Prop} {Q : Exit → Act → World → Prop} {E : Prop} (hg : o.guard = none) (s x : Operand)
  (ho : o.op = .call { callee := .builtin .append, args := #[s, x], argTypes := #[35, 35] }) {base : Nat} {v : Value} {l0 : List Int} (hs : a.eval s = v) (hown : OwnInts w base v l0)
  {ao : Option Addr} {n c : Nat} {l : List Int} (hx : a.eval x = .slice ao n c) (hat : IntsAt w ao n l) (hl : l0.length + n < 1099511627776) (hbase : base ≤ w.heap.size)
  (hK : ∀ v' w', OwnInts w' base v' (l0 ++ l) → Kept (fun k => some k = v.ownBlock) w w' → (v'.ownBlock = v.ownBlock ∨ v'.ownBlock = some w.heap.size) → K (a.put o.dst v') w') :
  if Region.wanted o (yielded ops a.tmps) = true then Oper.wp Tryz.prog o a w K Q else E := by
 obtain ⟨i0, hi, hz0, hz1, hz2⟩ := info_parts infoInt
 refine step_append_whole _ hg s x 35 ho base 3 i0 _ 1 8 Tryz.underlying35 hi hz0 hz1 hz2 rfl (by decide) v l0.length (l0.map (Value.int .i64)) hs hown ao n c (l.map (Value.int .i64)) hx (by rw [List.length_map, hat.1, Nat.mul_one]) ?_ (by intro u hu; obtain ⟨z, _, rfl⟩ := List.mem_map.1 hu; rfl) (by unfold maxLen; omega) (by omega) hbase ?_
 ·intro j u hu
  rw [List.getElem?_map] at hu
  obtain ⟨z, hz, rfl⟩ := Option.map_eq_some_iff.1 hu
  obtain ⟨b, off, x, ha, hb, hx, hc⟩ := hat.2 j (by have := lt_of_getElem? hz; have := hat.1; omega)
  rw [hz] at hx
  cases hx
  exact ⟨b, off, ha, hc⟩
 ·intro v' w' h1 h2 h3
  refine hK v' w' ?_ (Kept.of_grown h2) h3
  unfold OwnInts
  rw [List.length_append, List.map_append, hat.1]
  exact h1
def Th (w : World) (base : Nat) : Nat → Value → List Int → Prop
 | 0, _, _ => True
 | 1, v, _ => OwnInts w base v []
 | _ + 2, v, l => OwnInts w base v l
theorem Th.kept {K : Nat → Prop} {w w' : World} {base s : Nat} {v : Value} {l : List Int} (h : Th w base s v l) (hk : Kept K w w') (hn : s ≠ 0 → ∀ k, v.ownBlock = some k → ¬ K k) : Th w' base s v l := by
 match s, h with
 | 0, h => trivial
 | 1, h => exact hk.ownsRow h (hn (by decide))
 | s + 2, h => exact hk.ownsRow h (hn (by omega))
theorem Th.lt {w : World} {base s : Nat} {v : Value} {l : List Int} (h : Th w base s v l) (hs : s ≠ 0) : ∀ k, v.ownBlock = some k → base ≤ k ∧ k < w.heap.size := by
 match s, h with
 | 0, h => exact absurd rfl hs
 | 1, h => exact OwnInts.lt h
 | s + 2, h => exact OwnInts.lt h
structure C4 (W WU w : World) (S : PebT) (s0 s1 s2 : Nat) (v0 v1 v2 : Value) : Prop where
 b : Below W.heap.size W w
 k : Below WU.heap.size WU w
 sz : W.heap.size + 2 ≤ w.heap.size
 t0 : Th w (W.heap.size + 2) s0 v0 S.1
 t1 : Th w (W.heap.size + 2) s1 v1 S.2.1
 t2 : Th w (W.heap.size + 2) s2 v2 S.2.2
 d01 : s0 ≠ 0 → s1 ≠ 0 → ∀ k, v0.ownBlock = some k → v1.ownBlock ≠ some k
 d02 : s0 ≠ 0 → s2 ≠ 0 → ∀ k, v0.ownBlock = some k → v2.ownBlock ≠ some k
 d12 : s1 ≠ 0 → s2 ≠ 0 → ∀ k, v1.ownBlock = some k → v2.ownBlock ≠ some k
theorem C4.peb {W WU w : World} {S : PebT} {v0 v1 v2 : Value} (h : C4 W WU w S 2 2 2 v0 v1 v2) : Peb3 (W.heap.size + 2) w v0 v1 v2 S := ⟨h.t0, h.t1, h.t2, h.d01 (by decide) (by decide), h.d02 (by decide) (by decide), h.d12 (by decide) (by decide)⟩
theorem alNew {w : World} {base s : Nat} {v : Value} {l : List Int} {o : Obj} (h : Th w base s v l) : Th (w.alloc o) base s v l := h.kept (Kept.of_below (S := fun _ => False) (belAl w o)) fun _ _ _ => id
theorem own0 (w : World) (base : Nat) (h : base ≤ w.heap.size) : OwnInts (w.alloc (.cells #[] 3)) base (.slice (some ⟨w.heap.size, 0, none⟩) 0 0) [] := OwnInts.made w base h
theorem obSome {g : Nat} {k : Nat} (h : (Value.slice (some ⟨g, 0, none⟩) 0 0).ownBlock = some k) : k = g := (Option.some.inj h).symm
theorem C4.al0 {W WU w : World} {S : PebT} {s1 s2 : Nat} {v0 v1 v2 : Value} (h : C4 W WU w S 0 s1 s2 v0 v1 v2) : C4 W WU (w.alloc (.cells #[] 3)) S 1 s1 s2 (.slice (some ⟨w.heap.size, 0, none⟩) 0 0) v1 v2 := by
 exact ⟨h.b.step (belAl _ _), h.k.step (belAl _ _), by have := h.sz; simp; omega, own0 w _ h.sz, alNew h.t1, alNew h.t2, fun h1 h2 k hk e => by have := obSome hk; have := (h.t1.lt h2 k e).2; omega, fun h1 h2 k hk e => by have := obSome hk; have := (h.t2.lt h2 k e).2; omega, h.d12⟩
theorem C4.ap0 {W WU w w' : World} {S : PebT} {s1 s2 : Nat} {v0 v1 v2 v' : Value} (h : C4 W WU w S 1 s1 s2 v0 v1 v2) (hwu : WU.heap.size ≤ W.heap.size + 2) (ho : OwnInts w' (W.heap.size + 2) v' S.1) (hk : Kept (fun k => some k = v0.ownBlock) w w') (ha : v'.ownBlock = v0.ownBlock ∨ v'.ownBlock = some w.heap.size) : C4 W WU w' S 2 s1 s2 v' v1 v2 := by
 have hq : ∀ k, v0.ownBlock = some k → W.heap.size + 2 ≤ k ∧ k < w.heap.size := h.t0.lt (by decide)
 exact ⟨h.b.trans (hk.below h.b.size fun k h1 h2 => by have := (hq k h2.symm).1; omega), h.k.trans (hk.below h.k.size fun k h1 h2 => by have := (hq k h2.symm).1; omega), Nat.le_trans h.sz hk.size, ho, h.t1.kept hk fun h1 k hk1 e => h.d01 (by decide) h1 k e.symm hk1, h.t2.kept hk fun h1 k hk1 e => h.d02 (by decide) h1 k e.symm hk1, fun h1 h2 k hk1 e => by rcases ha with ha | ha; exact h.d01 (by decide) h2 k (ha.symm.trans hk1) e; have h8 : w.heap.size = k := Option.some.inj (ha.symm.trans hk1); have := (h.t1.lt h2 k e).2; omega, fun h1 h2 k hk1 e => by rcases ha with ha | ha; exact h.d02 (by decide) h2 k (ha.symm.trans hk1) e; have h8 : w.heap.size = k := Option.some.inj (ha.symm.trans hk1); have := (h.t2.lt h2 k e).2; omega, h.d12⟩
theorem C4.al1 {W WU w : World} {S : PebT} {s0 s2 : Nat} {v0 v1 v2 : Value} (h : C4 W WU w S s0 0 s2 v0 v1 v2) : C4 W WU (w.alloc (.cells #[] 3)) S s0 1 s2 v0 (.slice (some ⟨w.heap.size, 0, none⟩) 0 0) v2 := by
 exact ⟨h.b.step (belAl _ _), h.k.step (belAl _ _), by have := h.sz; simp; omega, alNew h.t0, own0 w _ h.sz, alNew h.t2, fun h1 h2 k hk e => by have := obSome e; have := (h.t0.lt h1 k hk).2; omega, h.d02, fun h1 h2 k hk e => by have := obSome hk; have := (h.t2.lt h2 k e).2; omega⟩
theorem C4.ap1 {W WU w w' : World} {S : PebT} {s0 s2 : Nat} {v0 v1 v2 v' : Value} (h : C4 W WU w S s0 1 s2 v0 v1 v2) (hwu : WU.heap.size ≤ W.heap.size + 2) (ho : OwnInts w' (W.heap.size + 2) v' S.2.1) (hk : Kept (fun k => some k = v1.ownBlock) w w') (ha : v'.ownBlock = v1.ownBlock ∨ v'.ownBlock = some w.heap.size) : C4 W WU w' S s0 2 s2 v0 v' v2 := by
 have hq : ∀ k, v1.ownBlock = some k → W.heap.size + 2 ≤ k ∧ k < w.heap.size := h.t1.lt (by decide)
 exact ⟨h.b.trans (hk.below h.b.size fun k h1 h2 => by have := (hq k h2.symm).1; omega), h.k.trans (hk.below h.k.size fun k h1 h2 => by have := (hq k h2.symm).1; omega), Nat.le_trans h.sz hk.size, h.t0.kept hk fun h1 k hk1 e => h.d01 h1 (by decide) k hk1 e.symm, ho, h.t2.kept hk fun h1 k hk1 e => h.d12 (by decide) h1 k e.symm hk1, fun h1 h2 k hk1 e => by rcases ha with ha | ha; exact h.d01 h1 (by decide) k hk1 (ha.symm.trans e); have h8 : w.heap.size = k := Option.some.inj (ha.symm.trans e); have := (h.t0.lt h1 k hk1).2; omega, h.d02, fun h1 h2 k hk1 e => by rcases ha with ha | ha; exact h.d12 (by decide) h2 k (ha.symm.trans hk1) e; have h8 : w.heap.size = k := Option.some.inj (ha.symm.trans hk1); have := (h.t2.lt h2 k e).2; omega⟩
theorem C4.al2 {W WU w : World} {S : PebT} {s0 s1 : Nat} {v0 v1 v2 : Value} (h : C4 W WU w S s0 s1 0 v0 v1 v2) : C4 W WU (w.alloc (.cells #[] 3)) S s0 s1 1 v0 v1 (.slice (some ⟨w.heap.size, 0, none⟩) 0 0) := by
 exact ⟨h.b.step (belAl _ _), h.k.step (belAl _ _), by have := h.sz; simp; omega, alNew h.t0, alNew h.t1, own0 w _ h.sz, h.d01, fun h1 h2 k hk e => by have := obSome e; have := (h.t0.lt h1 k hk).2; omega, fun h1 h2 k hk e => by have := obSome e; have := (h.t1.lt h1 k hk).2; omega⟩
theorem C4.ap2 {W WU w w' : World} {S : PebT} {s0 s1 : Nat} {v0 v1 v2 v' : Value} (h : C4 W WU w S s0 s1 1 v0 v1 v2) (hwu : WU.heap.size ≤ W.heap.size + 2) (ho : OwnInts w' (W.heap.size + 2) v' S.2.2) (hk : Kept (fun k => some k = v2.ownBlock) w w') (ha : v'.ownBlock = v2.ownBlock ∨ v'.ownBlock = some w.heap.size) : C4 W WU w' S s0 s1 2 v0 v1 v' := by
 have hq : ∀ k, v2.ownBlock = some k → W.heap.size + 2 ≤ k ∧ k < w.heap.size := h.t2.lt (by decide)
 exact ⟨h.b.trans (hk.below h.b.size fun k h1 h2 => by have := (hq k h2.symm).1; omega), h.k.trans (hk.below h.k.size fun k h1 h2 => by have := (hq k h2.symm).1; omega), Nat.le_trans h.sz hk.size, h.t0.kept hk fun h1 k hk1 e => h.d02 h1 (by decide) k hk1 e.symm, h.t1.kept hk fun h1 k hk1 e => h.d12 h1 (by decide) k hk1 e.symm, ho, h.d01, fun h1 h2 k hk1 e => by rcases ha with ha | ha; exact h.d02 h1 (by decide) k hk1 (ha.symm.trans e); have h8 : w.heap.size = k := Option.some.inj (ha.symm.trans e); have := (h.t0.lt h1 k hk1).2; omega, fun h1 h2 k hk1 e => by rcases ha with ha | ha; exact h.d12 h1 (by decide) k hk1 (ha.symm.trans e); have h8 : w.heap.size = k := Option.some.inj (ha.symm.trans e); have := (h.t1.lt h1 k hk1).2; omega⟩

set_option maxHeartbeats 16000000 in
theorem specCpP_at (W : World) (vF vT vP : Value) (S : PebT) (h : PebIs W vF vT vP S) (hl : S.1.length ≤ 1048576 ∧ S.2.1.length ≤ 1048576 ∧ S.2.2.length ≤ 1048576) :
  Calls Tryz.prog 158 #[.agg #[vF, vT, vP]] W (RetPeb W S) := by
 obtain ⟨aF, cF, hF0, -⟩ := h.iF
 obtain ⟨aT, cT, hT0, -⟩ := h.iT
 obtain ⟨aP, cP, hP0, -⟩ := h.iP
 have HIS : Hid (∀ w', Below W.heap.size W w' → IntsAt w' aF S.1.length S.1 ∧ IntsAt w' aT S.2.1.length S.2.1 ∧ IntsAt w' aP S.2.2.length S.2.2) := Lib.hid fun w' hb => by
  obtain ⟨a1, c1, e1, i1⟩ := (h.below hb).iF
  obtain ⟨a2, c2, e2, i2⟩ := (h.below hb).iT
  obtain ⟨a3, c3, e3, i3⟩ := (h.below hb).iP
  rw [hF0] at e1
  rw [hT0] at e2
  rw [hP0] at e3
  simp only [Value.slice.injEq] at e1 e2 e3
  rw [e1.1, e2.1, e3.1]
  exact ⟨i1, i2, i3⟩
 subst hF0
 subst hT0
 subst hP0
 clear h
 have b0 : Below W.heap.size W ((W.alloc (.cells #[(.slice aF S.1.length cF), (.slice aT S.2.1.length cT), (.slice aP S.2.2.length cP)] 117)).alloc (.cells #[.slice none 0 0, .slice none 0 0, .slice none 0 0] 117)) := ((Below.refl _ W).alloc (Nat.le_refl _) _).alloc (by simp) _
 have f0 : ((W.alloc (.cells #[(.slice aF S.1.length cF), (.slice aT S.2.1.length cT), (.slice aP S.2.2.length cP)] 117)).alloc (.cells #[.slice none 0 0, .slice none 0 0, .slice none 0 0] 117)).cell? ⟨W.heap.size, 0, none⟩ = some (.slice aF S.1.length cF) := by simp [World.cell?_alloc_new]
 have f1 : ((W.alloc (.cells #[(.slice aF S.1.length cF), (.slice aT S.2.1.length cT), (.slice aP S.2.2.length cP)] 117)).alloc (.cells #[.slice none 0 0, .slice none 0 0, .slice none 0 0] 117)).cell? ⟨W.heap.size, 1, none⟩ = some (.slice aT S.2.1.length cT) := by simp [World.cell?_alloc_new]
 have f2 : ((W.alloc (.cells #[(.slice aF S.1.length cF), (.slice aT S.2.1.length cT), (.slice aP S.2.2.length cP)] 117)).alloc (.cells #[.slice none 0 0, .slice none 0 0, .slice none 0 0] 117)).cell? ⟨W.heap.size, 2, none⟩ = some (.slice aP S.2.2.length cP) := by simp [World.cell?_alloc_new]
 have hu : ((W.alloc (.cells #[(.slice aF S.1.length cF), (.slice aT S.2.1.length cT), (.slice aP S.2.2.length cP)] 117)).alloc (.cells #[.slice none 0 0, .slice none 0 0, .slice none 0 0] 117)).heap.size = W.heap.size + 2 := by simp
 have HF := Lib.hid (And.intro f0 (And.intro f1 f2))
 clear f0 f1 f2
 have HZ : Hid (ZerP ((W.alloc (.cells #[(.slice aF S.1.length cF), (.slice aT S.2.1.length cT), (.slice aP S.2.2.length cP)] 117)).alloc (.cells #[.slice none 0 0, .slice none 0 0, .slice none 0 0] 117)) (W.heap.size + 1)) := Lib.hid (by have := ZerP.at (W.alloc (.cells #[(.slice aF S.1.length cF), (.slice aT S.2.1.length cT), (.slice aP S.2.2.length cP)] 117)) 117; rwa [World.size_alloc] at this)
 go_enter Tryz.func158, Tryz.ntmps158
 go_wp2_with fail
 generalize ((W.alloc (.cells #[(.slice aF S.1.length cF), (.slice aT S.2.1.length cT), (.slice aP S.2.2.length cP)] 117)).alloc (.cells #[.slice none 0 0, .slice none 0 0, .slice none 0 0] 117)) = u at *
 have hl1 := hl.1
 have hl2 := hl.2.1
 have hl3 := hl.2.2
 have SK : Hid (∀ w', Below u.drew.heap.size u.drew w' → w'.cell? ⟨W.heap.size, 0, none⟩ = some (.slice aF S.1.length cF) ∧ w'.cell? ⟨W.heap.size, 1, none⟩ = some (.slice aT S.2.1.length cT) ∧ w'.cell? ⟨W.heap.size, 2, none⟩ = some (.slice aP S.2.2.length cP)) := Lib.hid fun w' hb => ⟨((bcell hb).1 _ _ (by show W.heap.size < u.heap.size; omega)).trans HF.out.1, ((bcell hb).1 _ _ (by show W.heap.size < u.heap.size; omega)).trans HF.out.2.1, ((bcell hb).1 _ _ (by show W.heap.size < u.heap.size; omega)).trans HF.out.2.2⟩
 have bd : Below u.drew.heap.size u.drew u.drew := Below.refl _ _
 have bu : Below W.heap.size W u.drew := b0.drew
 have hud : W.heap.size + 2 ≤ u.drew.heap.size := by show _ ≤ u.heap.size; omega
 refine wp_regionZ (fun w' => w'.cell? ⟨W.heap.size, 0, none⟩ = some (.slice aF S.1.length cF) ∧ w'.cell? ⟨W.heap.size, 1, none⟩ = some (.slice aT S.2.1.length cT) ∧ w'.cell? ⟨W.heap.size, 2, none⟩ = some (.slice aP S.2.2.length cP)) 13 (by kernel_rfl) ?_
 refine wpAnyZ_take (i := 1) (v := ?_) rfl (by kernel_rfl) (by kernel_rfl) (by kernel_rfl) (by kernel_rfl) (by kernel_rfl) (fun _ _ _ h => h) (SK.out _ bd) (by rfl) ?_ ?_
 rotate_left
 · intro x hx; obtain ⟨x1, x2, x3⟩ := hx; go_simp; try (with_reducible rfl)
 try simp only [Act.put, List.setIfInBounds_toArray, List.set_cons_zero, List.set_cons_succ]
 refine wpAnyZ_take (i := 2) (v := ?_) rfl (by kernel_rfl) (by kernel_rfl) (by kernel_rfl) (by kernel_rfl) (by kernel_rfl) (fun _ _ _ h => h) (SK.out _ bd) (by rfl) ?_ ?_
 rotate_left
 · intro x hx; obtain ⟨x1, x2, x3⟩ := hx; go_simp; try (with_reducible rfl)
 try simp only [Act.put, List.setIfInBounds_toArray, List.set_cons_zero, List.set_cons_succ]
 refine wpAnyZ_take (i := 5) (v := ?_) rfl (by kernel_rfl) (by kernel_rfl) (by kernel_rfl) (by kernel_rfl) (by kernel_rfl) (fun _ _ _ h => h) (SK.out _ bd) (by rfl) ?_ ?_
 rotate_left
 · intro x hx; obtain ⟨x1, x2, x3⟩ := hx; go_simp; try (with_reducible rfl)
 try simp only [Act.put, List.setIfInBounds_toArray, List.set_cons_zero, List.set_cons_succ]
 refine wpAnyZ_take (i := 6) (v := ?_) rfl (by kernel_rfl) (by kernel_rfl) (by kernel_rfl) (by kernel_rfl) (by kernel_rfl) (fun _ _ _ h => h) (SK.out _ bd) (by rfl) ?_ ?_
 rotate_left
 · intro x hx; obtain ⟨x1, x2, x3⟩ := hx; go_simp; try (with_reducible rfl)
 try simp only [Act.put, List.setIfInBounds_toArray, List.set_cons_zero, List.set_cons_succ]
 refine wpAnyZ_take (i := 9) (v := ?_) rfl (by kernel_rfl) (by kernel_rfl) (by kernel_rfl) (by kernel_rfl) (by kernel_rfl) (fun _ _ _ h => h) (SK.out _ bd) (by rfl) ?_ ?_
 rotate_left
 · intro x hx; obtain ⟨x1, x2, x3⟩ := hx; go_simp; try (with_reducible rfl)
 try simp only [Act.put, List.setIfInBounds_toArray, List.set_cons_zero, List.set_cons_succ]
 refine wpAnyZ_take (i := 10) (v := ?_) rfl (by kernel_rfl) (by kernel_rfl) (by kernel_rfl) (by kernel_rfl) (by kernel_rfl) (fun _ _ _ h => h) (SK.out _ bd) (by rfl) ?_ ?_
 rotate_left
 · intro x hx; obtain ⟨x1, x2, x3⟩ := hx; go_simp; try (with_reducible rfl)
 try simp only [Act.put, List.setIfInBounds_toArray, List.set_cons_zero, List.set_cons_succ]
 have hwu : u.drew.heap.size ≤ W.heap.size + 2 := by show u.heap.size ≤ _; omega
 refine wpAnyZ_abs fun Z ND DN => ?_
 have Z222 : Hid (∀ (x0 x1 x2 y0 y1 y2 : Value) (w : World), C4 W u.drew w S 2 2 2 (y0) (y1) (y2) → Z 2 #[true, true, true, true, true, true, true, true, true, true, true, true, false, false] { tmps := #[.agg #[.slice aF S.1.length cF, .slice aT S.2.1.length cT, .slice aP S.2.2.length cP], .pointer (some ⟨W.heap.size, 0, none⟩), .pointer (some ⟨W.heap.size + 1, 0, none⟩), x0, .pointer (some ⟨W.heap.size, 0, none⟩), .slice aF S.1.length cF, y0, x1, .pointer (some ⟨W.heap.size, 1, none⟩), .slice aT S.2.1.length cT, y1, x2, .pointer (some ⟨W.heap.size, 2, none⟩), .slice aP S.2.2.length cP, y2, undef], defers := [] } w) := Lib.hid (by
  intro x0 x1 x2 y0 y1 y2 w hc
  have HC := Lib.hid hc
  clear hc
  obtain ⟨b0, g0, rfl, -⟩ := HC.out.t0.form
  obtain ⟨b1, g1, rfl, -⟩ := HC.out.t1.form
  obtain ⟨b2, g2, rfl, -⟩ := HC.out.t2.form
  have SKw := SK.out w HC.out.k
  refine ND.out _ _ _ _ [12] (by kernel_rfl) (by decide) ?_
  intro i hi
  obtain rfl : i = 12 := by simpa using hi
  refine ⟨_, rfl, by rfl, ?_⟩
  intro KK hKK
  go_simp
  refine hKK.out _ _ (.inr SKw) ?_
  clear hKK KK
  simp only [Act.put, List.setIfInBounds_toArray, List.set_cons_zero, List.set_cons_succ]
  have P3 := Lib.hid HC.out.peb
  have bu3 := HC.out.b
  obtain ⟨⟨z0, z1, z2, y0, y1, y2⟩, ⟨f0, f1, f2⟩, gz⟩ := (HZ.out.below ((Below.refl _ u).drew.step HC.out.k))
  have hlt : W.heap.size + 1 < w.heap.size := gz
  refine ND.out _ _ _ _ [13] (by kernel_rfl) (by decide) ?_
  intro i hi
  obtain rfl : i = 13 := by simpa using hi
  refine ⟨_, rfl, by rfl, ?_⟩
  intro KK hKK
  go_simp
  refine hKK.out _ _ (.inl (by kernel_rfl)) ?_
  clear hKK KK
  refine DN.out _ _ _ _ (by kernel_rfl) ?_
  try simp only [Act.put, List.setIfInBounds_toArray, List.set_cons_zero, List.set_cons_succ]
  clear ND DN
  go_wp2_with fail
  have HLD := Lib.hid (laidP (W := W) P3.out (g := W.heap.size + 1) (by omega) (by omega) (by omega) bu3)
  exact bodyPost_ret (v := .agg #[.slice b0 S.1.length g0, .slice b1 S.2.1.length g1, .slice b2 S.2.2.length g2]) (by simp [results, Tryz.results158, go_sem, gz, y0, y1, y2]) rfl ⟨_, rfl, HLD.out.1, HLD.out.2⟩)
 have Z221 : Hid (∀ (x0 x1 x2 y0 y1 : Value) (w : World), C4 W u.drew w S 2 2 1 (y0) (y1) (x2) → Z 3 #[true, true, true, true, true, true, true, true, true, true, true, false, false, false] { tmps := #[.agg #[.slice aF S.1.length cF, .slice aT S.2.1.length cT, .slice aP S.2.2.length cP], .pointer (some ⟨W.heap.size, 0, none⟩), .pointer (some ⟨W.heap.size + 1, 0, none⟩), x0, .pointer (some ⟨W.heap.size, 0, none⟩), .slice aF S.1.length cF, y0, x1, .pointer (some ⟨W.heap.size, 1, none⟩), .slice aT S.2.1.length cT, y1, x2, .pointer (some ⟨W.heap.size, 2, none⟩), .slice aP S.2.2.length cP, undef, undef], defers := [] } w) := Lib.hid (by
  intro x0 x1 x2 y0 y1 w hc
  have HC := Lib.hid hc
  clear hc
  refine ND.out _ _ _ _ [11] (by kernel_rfl) (by decide) ?_
  intro i hi
  simp only [List.mem_cons, List.not_mem_nil, or_false] at hi
  subst hi
  ·refine ⟨_, rfl, by rfl, ?_⟩
   intro KK hKK
   refine stepAppInts (by rfl) _ _ (by rfl) (by rfl) HC.out.t2 (by rfl) (HIS.out w HC.out.b).2.2 (by simp; omega) HC.out.sz ?_
   intro v1 w1 h1 k1 a1
   rw [List.nil_append] at h1
   have HN := Lib.hid (C4.ap2 HC.out hwu h1 k1 a1)
   have SKw := SK.out _ HN.out.k
   refine hKK.out _ _ (.inr SKw) ?_
   clear hKK KK
   simp only [Act.put, List.setIfInBounds_toArray, List.set_cons_zero, List.set_cons_succ]
   exact Z222.out _ _ _ _ _ _ _ HN.out)
 have Z211 : Hid (∀ (x0 x1 x2 y0 : Value) (w : World), C4 W u.drew w S 2 1 1 (y0) (x1) (x2) → Z 4 #[true, true, true, true, true, true, true, false, true, true, true, false, false, false] { tmps := #[.agg #[.slice aF S.1.length cF, .slice aT S.2.1.length cT, .slice aP S.2.2.length cP], .pointer (some ⟨W.heap.size, 0, none⟩), .pointer (some ⟨W.heap.size + 1, 0, none⟩), x0, .pointer (some ⟨W.heap.size, 0, none⟩), .slice aF S.1.length cF, y0, x1, .pointer (some ⟨W.heap.size, 1, none⟩), .slice aT S.2.1.length cT, undef, x2, .pointer (some ⟨W.heap.size, 2, none⟩), .slice aP S.2.2.length cP, undef, undef], defers := [] } w) := Lib.hid (by
  intro x0 x1 x2 y0 w hc
  have HC := Lib.hid hc
  clear hc
  refine ND.out _ _ _ _ [7] (by kernel_rfl) (by decide) ?_
  intro i hi
  simp only [List.mem_cons, List.not_mem_nil, or_false] at hi
  subst hi
  ·refine ⟨_, rfl, by rfl, ?_⟩
   intro KK hKK
   refine stepAppInts (by rfl) _ _ (by rfl) (by rfl) HC.out.t1 (by rfl) (HIS.out w HC.out.b).2.1 (by simp; omega) HC.out.sz ?_
   intro v1 w1 h1 k1 a1
   rw [List.nil_append] at h1
   have HN := Lib.hid (C4.ap1 HC.out hwu h1 k1 a1)
   have SKw := SK.out _ HN.out.k
   refine hKK.out _ _ (.inr SKw) ?_
   clear hKK KK
   simp only [Act.put, List.setIfInBounds_toArray, List.set_cons_zero, List.set_cons_succ]
   exact Z221.out _ _ _ _ _ _ HN.out)
 have Z220 : Hid (∀ (x0 x1 y0 y1 : Value) (w : World), C4 W u.drew w S 2 2 0 (y0) (y1) (undef) → Z 4 #[true, true, true, true, true, true, true, true, false, true, true, false, false, false] { tmps := #[.agg #[.slice aF S.1.length cF, .slice aT S.2.1.length cT, .slice aP S.2.2.length cP], .pointer (some ⟨W.heap.size, 0, none⟩), .pointer (some ⟨W.heap.size + 1, 0, none⟩), x0, .pointer (some ⟨W.heap.size, 0, none⟩), .slice aF S.1.length cF, y0, x1, .pointer (some ⟨W.heap.size, 1, none⟩), .slice aT S.2.1.length cT, y1, undef, .pointer (some ⟨W.heap.size, 2, none⟩), .slice aP S.2.2.length cP, undef, undef], defers := [] } w) := Lib.hid (by
  intro x0 x1 y0 y1 w hc
  have HC := Lib.hid hc
  clear hc
  refine ND.out _ _ _ _ [8] (by kernel_rfl) (by decide) ?_
  intro i hi
  simp only [List.mem_cons, List.not_mem_nil, or_false] at hi
  subst hi
  ·refine ⟨_, rfl, by rfl, ?_⟩
   intro KK hKK
   have HN := Lib.hid (C4.al2 HC.out)
   have SKw := SK.out _ HN.out.k
   go_simp
   refine hKK.out _ _ (.inr SKw) ?_
   clear hKK KK
   simp only [Act.put, List.setIfInBounds_toArray, List.set_cons_zero, List.set_cons_succ]
   exact Z221.out _ _ _ _ _ _ HN.out)
 have Z111 : Hid (∀ (x0 x1 x2 : Value) (w : World), C4 W u.drew w S 1 1 1 (x0) (x1) (x2) → Z 5 #[true, true, true, false, true, true, true, false, true, true, true, false, false, false] { tmps := #[.agg #[.slice aF S.1.length cF, .slice aT S.2.1.length cT, .slice aP S.2.2.length cP], .pointer (some ⟨W.heap.size, 0, none⟩), .pointer (some ⟨W.heap.size + 1, 0, none⟩), x0, .pointer (some ⟨W.heap.size, 0, none⟩), .slice aF S.1.length cF, undef, x1, .pointer (some ⟨W.heap.size, 1, none⟩), .slice aT S.2.1.length cT, undef, x2, .pointer (some ⟨W.heap.size, 2, none⟩), .slice aP S.2.2.length cP, undef, undef], defers := [] } w) := Lib.hid (by
  intro x0 x1 x2 w hc
  have HC := Lib.hid hc
  clear hc
  refine ND.out _ _ _ _ [3] (by kernel_rfl) (by decide) ?_
  intro i hi
  simp only [List.mem_cons, List.not_mem_nil, or_false] at hi
  subst hi
  ·refine ⟨_, rfl, by rfl, ?_⟩
   intro KK hKK
   refine stepAppInts (by rfl) _ _ (by rfl) (by rfl) HC.out.t0 (by rfl) (HIS.out w HC.out.b).1 (by simp; omega) HC.out.sz ?_
   intro v1 w1 h1 k1 a1
   rw [List.nil_append] at h1
   have HN := Lib.hid (C4.ap0 HC.out hwu h1 k1 a1)
   have SKw := SK.out _ HN.out.k
   refine hKK.out _ _ (.inr SKw) ?_
   clear hKK KK
   simp only [Act.put, List.setIfInBounds_toArray, List.set_cons_zero, List.set_cons_succ]
   exact Z211.out _ _ _ _ _ HN.out)
 have Z201 : Hid (∀ (x0 x2 y0 : Value) (w : World), C4 W u.drew w S 2 0 1 (y0) (undef) (x2) → Z 5 #[true, true, true, true, false, true, true, false, true, true, true, false, false, false] { tmps := #[.agg #[.slice aF S.1.length cF, .slice aT S.2.1.length cT, .slice aP S.2.2.length cP], .pointer (some ⟨W.heap.size, 0, none⟩), .pointer (some ⟨W.heap.size + 1, 0, none⟩), x0, .pointer (some ⟨W.heap.size, 0, none⟩), .slice aF S.1.length cF, y0, undef, .pointer (some ⟨W.heap.size, 1, none⟩), .slice aT S.2.1.length cT, undef, x2, .pointer (some ⟨W.heap.size, 2, none⟩), .slice aP S.2.2.length cP, undef, undef], defers := [] } w) := Lib.hid (by
  intro x0 x2 y0 w hc
  have HC := Lib.hid hc
  clear hc
  refine ND.out _ _ _ _ [4] (by kernel_rfl) (by decide) ?_
  intro i hi
  simp only [List.mem_cons, List.not_mem_nil, or_false] at hi
  subst hi
  ·refine ⟨_, rfl, by rfl, ?_⟩
   intro KK hKK
   have HN := Lib.hid (C4.al1 HC.out)
   have SKw := SK.out _ HN.out.k
   go_simp
   refine hKK.out _ _ (.inr SKw) ?_
   clear hKK KK
   simp only [Act.put, List.setIfInBounds_toArray, List.set_cons_zero, List.set_cons_succ]
   exact Z211.out _ _ _ _ _ HN.out)
 have Z210 : Hid (∀ (x0 x1 y0 : Value) (w : World), C4 W u.drew w S 2 1 0 (y0) (x1) (undef) → Z 5 #[true, true, true, true, true, true, true, false, false, true, true, false, false, false] { tmps := #[.agg #[.slice aF S.1.length cF, .slice aT S.2.1.length cT, .slice aP S.2.2.length cP], .pointer (some ⟨W.heap.size, 0, none⟩), .pointer (some ⟨W.heap.size + 1, 0, none⟩), x0, .pointer (some ⟨W.heap.size, 0, none⟩), .slice aF S.1.length cF, y0, x1, .pointer (some ⟨W.heap.size, 1, none⟩), .slice aT S.2.1.length cT, undef, undef, .pointer (some ⟨W.heap.size, 2, none⟩), .slice aP S.2.2.length cP, undef, undef], defers := [] } w) := Lib.hid (by
  intro x0 x1 y0 w hc
  have HC := Lib.hid hc
  clear hc
  refine ND.out _ _ _ _ [7, 8] (by kernel_rfl) (by decide) ?_
  intro i hi
  simp only [List.mem_cons, List.not_mem_nil, or_false] at hi
  rcases hi with rfl | rfl
  ·refine ⟨_, rfl, by rfl, ?_⟩
   intro KK hKK
   refine stepAppInts (by rfl) _ _ (by rfl) (by rfl) HC.out.t1 (by rfl) (HIS.out w HC.out.b).2.1 (by simp; omega) HC.out.sz ?_
   intro v1 w1 h1 k1 a1
   rw [List.nil_append] at h1
   have HN := Lib.hid (C4.ap1 HC.out hwu h1 k1 a1)
   have SKw := SK.out _ HN.out.k
   refine hKK.out _ _ (.inr SKw) ?_
   clear hKK KK
   simp only [Act.put, List.setIfInBounds_toArray, List.set_cons_zero, List.set_cons_succ]
   exact Z220.out _ _ _ _ _ HN.out
  ·refine ⟨_, rfl, by rfl, ?_⟩
   intro KK hKK
   have HN := Lib.hid (C4.al2 HC.out)
   have SKw := SK.out _ HN.out.k
   go_simp
   refine hKK.out _ _ (.inr SKw) ?_
   clear hKK KK
   simp only [Act.put, List.setIfInBounds_toArray, List.set_cons_zero, List.set_cons_succ]
   exact Z211.out _ _ _ _ _ HN.out)
 have Z011 : Hid (∀ (x1 x2 : Value) (w : World), C4 W u.drew w S 0 1 1 (undef) (x1) (x2) → Z 6 #[false, true, true, false, true, true, true, false, true, true, true, false, false, false] { tmps := #[.agg #[.slice aF S.1.length cF, .slice aT S.2.1.length cT, .slice aP S.2.2.length cP], .pointer (some ⟨W.heap.size, 0, none⟩), .pointer (some ⟨W.heap.size + 1, 0, none⟩), undef, .pointer (some ⟨W.heap.size, 0, none⟩), .slice aF S.1.length cF, undef, x1, .pointer (some ⟨W.heap.size, 1, none⟩), .slice aT S.2.1.length cT, undef, x2, .pointer (some ⟨W.heap.size, 2, none⟩), .slice aP S.2.2.length cP, undef, undef], defers := [] } w) := Lib.hid (by
  intro x1 x2 w hc
  have HC := Lib.hid hc
  clear hc
  refine ND.out _ _ _ _ [0] (by kernel_rfl) (by decide) ?_
  intro i hi
  simp only [List.mem_cons, List.not_mem_nil, or_false] at hi
  subst hi
  ·refine ⟨_, rfl, by rfl, ?_⟩
   intro KK hKK
   have HN := Lib.hid (C4.al0 HC.out)
   have SKw := SK.out _ HN.out.k
   go_simp
   refine hKK.out _ _ (.inr SKw) ?_
   clear hKK KK
   simp only [Act.put, List.setIfInBounds_toArray, List.set_cons_zero, List.set_cons_succ]
   exact Z111.out _ _ _ _ HN.out)
 have Z101 : Hid (∀ (x0 x2 : Value) (w : World), C4 W u.drew w S 1 0 1 (x0) (undef) (x2) → Z 6 #[true, true, true, false, false, true, true, false, true, true, true, false, false, false] { tmps := #[.agg #[.slice aF S.1.length cF, .slice aT S.2.1.length cT, .slice aP S.2.2.length cP], .pointer (some ⟨W.heap.size, 0, none⟩), .pointer (some ⟨W.heap.size + 1, 0, none⟩), x0, .pointer (some ⟨W.heap.size, 0, none⟩), .slice aF S.1.length cF, undef, undef, .pointer (some ⟨W.heap.size, 1, none⟩), .slice aT S.2.1.length cT, undef, x2, .pointer (some ⟨W.heap.size, 2, none⟩), .slice aP S.2.2.length cP, undef, undef], defers := [] } w) := Lib.hid (by
  intro x0 x2 w hc
  have HC := Lib.hid hc
  clear hc
  refine ND.out _ _ _ _ [3, 4] (by kernel_rfl) (by decide) ?_
  intro i hi
  simp only [List.mem_cons, List.not_mem_nil, or_false] at hi
  rcases hi with rfl | rfl
  ·refine ⟨_, rfl, by rfl, ?_⟩
   intro KK hKK
   refine stepAppInts (by rfl) _ _ (by rfl) (by rfl) HC.out.t0 (by rfl) (HIS.out w HC.out.b).1 (by simp; omega) HC.out.sz ?_
   intro v1 w1 h1 k1 a1
   rw [List.nil_append] at h1
   have HN := Lib.hid (C4.ap0 HC.out hwu h1 k1 a1)
   have SKw := SK.out _ HN.out.k
   refine hKK.out _ _ (.inr SKw) ?_
   clear hKK KK
   simp only [Act.put, List.setIfInBounds_toArray, List.set_cons_zero, List.set_cons_succ]
   exact Z201.out _ _ _ _ HN.out
  ·refine ⟨_, rfl, by rfl, ?_⟩
   intro KK hKK
   have HN := Lib.hid (C4.al1 HC.out)
   have SKw := SK.out _ HN.out.k
   go_simp
   refine hKK.out _ _ (.inr SKw) ?_
   clear hKK KK
   simp only [Act.put, List.setIfInBounds_toArray, List.set_cons_zero, List.set_cons_succ]
   exact Z111.out _ _ _ _ HN.out)
 have Z110 : Hid (∀ (x0 x1 : Value) (w : World), C4 W u.drew w S 1 1 0 (x0) (x1) (undef) → Z 6 #[true, true, true, false, true, true, true, false, false, true, true, false, false, false] { tmps := #[.agg #[.slice aF S.1.length cF, .slice aT S.2.1.length cT, .slice aP S.2.2.length cP], .pointer (some ⟨W.heap.size, 0, none⟩), .pointer (some ⟨W.heap.size + 1, 0, none⟩), x0, .pointer (some ⟨W.heap.size, 0, none⟩), .slice aF S.1.length cF, undef, x1, .pointer (some ⟨W.heap.size, 1, none⟩), .slice aT S.2.1.length cT, undef, undef, .pointer (some ⟨W.heap.size, 2, none⟩), .slice aP S.2.2.length cP, undef, undef], defers := [] } w) := Lib.hid (by
  intro x0 x1 w hc
  have HC := Lib.hid hc
  clear hc
  refine ND.out _ _ _ _ [3, 8] (by kernel_rfl) (by decide) ?_
  intro i hi
  simp only [List.mem_cons, List.not_mem_nil, or_false] at hi
  rcases hi with rfl | rfl
  ·refine ⟨_, rfl, by rfl, ?_⟩
   intro KK hKK
   refine stepAppInts (by rfl) _ _ (by rfl) (by rfl) HC.out.t0 (by rfl) (HIS.out w HC.out.b).1 (by simp; omega) HC.out.sz ?_
   intro v1 w1 h1 k1 a1
   rw [List.nil_append] at h1
   have HN := Lib.hid (C4.ap0 HC.out hwu h1 k1 a1)
   have SKw := SK.out _ HN.out.k
   refine hKK.out _ _ (.inr SKw) ?_
   clear hKK KK
   simp only [Act.put, List.setIfInBounds_toArray, List.set_cons_zero, List.set_cons_succ]
   exact Z210.out _ _ _ _ HN.out
  ·refine ⟨_, rfl, by rfl, ?_⟩
   intro KK hKK
   have HN := Lib.hid (C4.al2 HC.out)
   have SKw := SK.out _ HN.out.k
   go_simp
   refine hKK.out _ _ (.inr SKw) ?_
   clear hKK KK
   simp only [Act.put, List.setIfInBounds_toArray, List.set_cons_zero, List.set_cons_succ]
   exact Z111.out _ _ _ _ HN.out)
 have Z200 : Hid (∀ (x0 y0 : Value) (w : World), C4 W u.drew w S 2 0 0 (y0) (undef) (undef) → Z 6 #[true, true, true, true, false, true, true, false, false, true, true, false, false, false] { tmps := #[.agg #[.slice aF S.1.length cF, .slice aT S.2.1.length cT, .slice aP S.2.2.length cP], .pointer (some ⟨W.heap.size, 0, none⟩), .pointer (some ⟨W.heap.size + 1, 0, none⟩), x0, .pointer (some ⟨W.heap.size, 0, none⟩), .slice aF S.1.length cF, y0, undef, .pointer (some ⟨W.heap.size, 1, none⟩), .slice aT S.2.1.length cT, undef, undef, .pointer (some ⟨W.heap.size, 2, none⟩), .slice aP S.2.2.length cP, undef, undef], defers := [] } w) := Lib.hid (by
  intro x0 y0 w hc
  have HC := Lib.hid hc
  clear hc
  refine ND.out _ _ _ _ [4, 8] (by kernel_rfl) (by decide) ?_
  intro i hi
  simp only [List.mem_cons, List.not_mem_nil, or_false] at hi
  rcases hi with rfl | rfl
  ·refine ⟨_, rfl, by rfl, ?_⟩
   intro KK hKK
   have HN := Lib.hid (C4.al1 HC.out)
   have SKw := SK.out _ HN.out.k
   go_simp
   refine hKK.out _ _ (.inr SKw) ?_
   clear hKK KK
   simp only [Act.put, List.setIfInBounds_toArray, List.set_cons_zero, List.set_cons_succ]
   exact Z210.out _ _ _ _ HN.out
  ·refine ⟨_, rfl, by rfl, ?_⟩
   intro KK hKK
   have HN := Lib.hid (C4.al2 HC.out)
   have SKw := SK.out _ HN.out.k
   go_simp
   refine hKK.out _ _ (.inr SKw) ?_
   clear hKK KK
   simp only [Act.put, List.setIfInBounds_toArray, List.set_cons_zero, List.set_cons_succ]
   exact Z201.out _ _ _ _ HN.out)
 have Z001 : Hid (∀ (x2 : Value) (w : World), C4 W u.drew w S 0 0 1 (undef) (undef) (x2) → Z 7 #[false, true, true, false, false, true, true, false, true, true, true, false, false, false] { tmps := #[.agg #[.slice aF S.1.length cF, .slice aT S.2.1.length cT, .slice aP S.2.2.length cP], .pointer (some ⟨W.heap.size, 0, none⟩), .pointer (some ⟨W.heap.size + 1, 0, none⟩), undef, .pointer (some ⟨W.heap.size, 0, none⟩), .slice aF S.1.length cF, undef, undef, .pointer (some ⟨W.heap.size, 1, none⟩), .slice aT S.2.1.length cT, undef, x2, .pointer (some ⟨W.heap.size, 2, none⟩), .slice aP S.2.2.length cP, undef, undef], defers := [] } w) := Lib.hid (by
  intro x2 w hc
  have HC := Lib.hid hc
  clear hc
  refine ND.out _ _ _ _ [0, 4] (by kernel_rfl) (by decide) ?_
  intro i hi
  simp only [List.mem_cons, List.not_mem_nil, or_false] at hi
  rcases hi with rfl | rfl
  ·refine ⟨_, rfl, by rfl, ?_⟩
   intro KK hKK
   have HN := Lib.hid (C4.al0 HC.out)
   have SKw := SK.out _ HN.out.k
   go_simp
   refine hKK.out _ _ (.inr SKw) ?_
   clear hKK KK
   simp only [Act.put, List.setIfInBounds_toArray, List.set_cons_zero, List.set_cons_succ]
   exact Z101.out _ _ _ HN.out
  ·refine ⟨_, rfl, by rfl, ?_⟩
   intro KK hKK
   have HN := Lib.hid (C4.al1 HC.out)
   have SKw := SK.out _ HN.out.k
   go_simp
   refine hKK.out _ _ (.inr SKw) ?_
   clear hKK KK
   simp only [Act.put, List.setIfInBounds_toArray, List.set_cons_zero, List.set_cons_succ]
   exact Z011.out _ _ _ HN.out)
 have Z010 : Hid (∀ (x1 : Value) (w : World), C4 W u.drew w S 0 1 0 (undef) (x1) (undef) → Z 7 #[false, true, true, false, true, true, true, false, false, true, true, false, false, false] { tmps := #[.agg #[.slice aF S.1.length cF, .slice aT S.2.1.length cT, .slice aP S.2.2.length cP], .pointer (some ⟨W.heap.size, 0, none⟩), .pointer (some ⟨W.heap.size + 1, 0, none⟩), undef, .pointer (some ⟨W.heap.size, 0, none⟩), .slice aF S.1.length cF, undef, x1, .pointer (some ⟨W.heap.size, 1, none⟩), .slice aT S.2.1.length cT, undef, undef, .pointer (some ⟨W.heap.size, 2, none⟩), .slice aP S.2.2.length cP, undef, undef], defers := [] } w) := Lib.hid (by
  intro x1 w hc
  have HC := Lib.hid hc
  clear hc
  refine ND.out _ _ _ _ [0, 8] (by kernel_rfl) (by decide) ?_
  intro i hi
  simp only [List.mem_cons, List.not_mem_nil, or_false] at hi
  rcases hi with rfl | rfl
  ·refine ⟨_, rfl, by rfl, ?_⟩
   intro KK hKK
   have HN := Lib.hid (C4.al0 HC.out)
   have SKw := SK.out _ HN.out.k
   go_simp
   refine hKK.out _ _ (.inr SKw) ?_
   clear hKK KK
   simp only [Act.put, List.setIfInBounds_toArray, List.set_cons_zero, List.set_cons_succ]
   exact Z110.out _ _ _ HN.out
  ·refine ⟨_, rfl, by rfl, ?_⟩
   intro KK hKK
   have HN := Lib.hid (C4.al2 HC.out)
   have SKw := SK.out _ HN.out.k
   go_simp
   refine hKK.out _ _ (.inr SKw) ?_
   clear hKK KK
   simp only [Act.put, List.setIfInBounds_toArray, List.set_cons_zero, List.set_cons_succ]
   exact Z011.out _ _ _ HN.out)
 have Z100 : Hid (∀ (x0 : Value) (w : World), C4 W u.drew w S 1 0 0 (x0) (undef) (undef) → Z 7 #[true, true, true, false, false, true, true, false, false, true, true, false, false, false] { tmps := #[.agg #[.slice aF S.1.length cF, .slice aT S.2.1.length cT, .slice aP S.2.2.length cP], .pointer (some ⟨W.heap.size, 0, none⟩), .pointer (some ⟨W.heap.size + 1, 0, none⟩), x0, .pointer (some ⟨W.heap.size, 0, none⟩), .slice aF S.1.length cF, undef, undef, .pointer (some ⟨W.heap.size, 1, none⟩), .slice aT S.2.1.length cT, undef, undef, .pointer (some ⟨W.heap.size, 2, none⟩), .slice aP S.2.2.length cP, undef, undef], defers := [] } w) := Lib.hid (by
  intro x0 w hc
  have HC := Lib.hid hc
  clear hc
  refine ND.out _ _ _ _ [3, 4, 8] (by kernel_rfl) (by decide) ?_
  intro i hi
  simp only [List.mem_cons, List.not_mem_nil, or_false] at hi
  rcases hi with rfl | rfl | rfl
  ·refine ⟨_, rfl, by rfl, ?_⟩
   intro KK hKK
   refine stepAppInts (by rfl) _ _ (by rfl) (by rfl) HC.out.t0 (by rfl) (HIS.out w HC.out.b).1 (by simp; omega) HC.out.sz ?_
   intro v1 w1 h1 k1 a1
   rw [List.nil_append] at h1
   have HN := Lib.hid (C4.ap0 HC.out hwu h1 k1 a1)
   have SKw := SK.out _ HN.out.k
   refine hKK.out _ _ (.inr SKw) ?_
   clear hKK KK
   simp only [Act.put, List.setIfInBounds_toArray, List.set_cons_zero, List.set_cons_succ]
   exact Z200.out _ _ _ HN.out
  ·refine ⟨_, rfl, by rfl, ?_⟩
   intro KK hKK
   have HN := Lib.hid (C4.al1 HC.out)
   have SKw := SK.out _ HN.out.k
   go_simp
   refine hKK.out _ _ (.inr SKw) ?_
   clear hKK KK
   simp only [Act.put, List.setIfInBounds_toArray, List.set_cons_zero, List.set_cons_succ]
   exact Z110.out _ _ _ HN.out
  ·refine ⟨_, rfl, by rfl, ?_⟩
   intro KK hKK
   have HN := Lib.hid (C4.al2 HC.out)
   have SKw := SK.out _ HN.out.k
   go_simp
   refine hKK.out _ _ (.inr SKw) ?_
   clear hKK KK
   simp only [Act.put, List.setIfInBounds_toArray, List.set_cons_zero, List.set_cons_succ]
   exact Z101.out _ _ _ HN.out)
 have Z000 : Hid (∀ (w : World), C4 W u.drew w S 0 0 0 (undef) (undef) (undef) → Z 8 #[false, true, true, false, false, true, true, false, false, true, true, false, false, false] { tmps := #[.agg #[.slice aF S.1.length cF, .slice aT S.2.1.length cT, .slice aP S.2.2.length cP], .pointer (some ⟨W.heap.size, 0, none⟩), .pointer (some ⟨W.heap.size + 1, 0, none⟩), undef, .pointer (some ⟨W.heap.size, 0, none⟩), .slice aF S.1.length cF, undef, undef, .pointer (some ⟨W.heap.size, 1, none⟩), .slice aT S.2.1.length cT, undef, undef, .pointer (some ⟨W.heap.size, 2, none⟩), .slice aP S.2.2.length cP, undef, undef], defers := [] } w) := Lib.hid (by
  intro w hc
  have HC := Lib.hid hc
  clear hc
  refine ND.out _ _ _ _ [0, 4, 8] (by kernel_rfl) (by decide) ?_
  intro i hi
  simp only [List.mem_cons, List.not_mem_nil, or_false] at hi
  rcases hi with rfl | rfl | rfl
  ·refine ⟨_, rfl, by rfl, ?_⟩
   intro KK hKK
   have HN := Lib.hid (C4.al0 HC.out)
   have SKw := SK.out _ HN.out.k
   go_simp
   refine hKK.out _ _ (.inr SKw) ?_
   clear hKK KK
   simp only [Act.put, List.setIfInBounds_toArray, List.set_cons_zero, List.set_cons_succ]
   exact Z100.out _ _ HN.out
  ·refine ⟨_, rfl, by rfl, ?_⟩
   intro KK hKK
   have HN := Lib.hid (C4.al1 HC.out)
   have SKw := SK.out _ HN.out.k
   go_simp
   refine hKK.out _ _ (.inr SKw) ?_
   clear hKK KK
   simp only [Act.put, List.setIfInBounds_toArray, List.set_cons_zero, List.set_cons_succ]
   exact Z010.out _ _ HN.out
  ·refine ⟨_, rfl, by rfl, ?_⟩
   intro KK hKK
   have HN := Lib.hid (C4.al2 HC.out)
   have SKw := SK.out _ HN.out.k
   go_simp
   refine hKK.out _ _ (.inr SKw) ?_
   clear hKK KK
   simp only [Act.put, List.setIfInBounds_toArray, List.set_cons_zero, List.set_cons_succ]
   exact Z001.out _ _ HN.out)
 exact Z000.out _ ⟨bu, bd, hud, trivial, trivial, trivial, fun h => absurd rfl h, fun h => absurd rfl h, fun h => absurd rfl h⟩

set_option maxHeartbeats 1000000 in
theorem l4Other_any (b1 b2 v r : Int) (hr : b1 + b2 - v = r) (h1 : 0 ≤ b1 ∧ b1 ≤ 64) (h2 : 0 ≤ b2 ∧ b2 ≤ 64) (h3 : 0 ≤ v ∧ v ≤ 64) (w : World) : Calls Tryz.prog 149 #[.agg #[.int .i64 b1, .int .i64 b2], .int .i64 v] w fun e w' => e = .returned (.int .i64 r) ∧ Below w.heap.size w w' := by
 have hb0 : Below w.heap.size w (w.alloc (.cells #[.int .i64 b1, .int .i64 b2] 70)) := belAl _ _
 have HE := Lib.hid hr
 clear hr
 go_enter Tryz.func149, Tryz.ntmps149
 go_wp2_with fail
 go_ret
 exact ⟨by rw [← HE.out]; try rfl, hb0⟩
structure BoxPb (w : World) (g : Nat) (vF vT vP : Value) : Prop where
 z : g < w.heap.size
 c0 : w.cell? ⟨g, 0, none⟩ = some vF
 c1 : w.cell? ⟨g, 1, none⟩ = some vT
 c2 : w.cell? ⟨g, 2, none⟩ = some vP
theorem BoxPb.below {w w' : World} {g : Nat} {vF vT vP : Value} (h : BoxPb w g vF vT vP) (hb : Below w.heap.size w w') : BoxPb w' g vF vT vP :=
 ⟨Nat.lt_of_lt_of_le h.z hb.size, ((bcell hb).1 _ _ h.z).trans h.c0, ((bcell hb).1 _ _ h.z).trans h.c1, ((bcell hb).1 _ _ h.z).trans h.c2⟩
theorem BoxPb.kept {K : Nat → Prop} {w w' : World} {g : Nat} {vF vT vP : Value} (h : BoxPb w g vF vT vP) (hk : Kept K w w') (hn : ¬ K g) : BoxPb w' g vF vT vP :=
 ⟨Nat.lt_of_lt_of_le h.z hk.size, (hk.cell h.z hn).trans h.c0, (hk.cell h.z hn).trans h.c1, (hk.cell h.z hn).trans h.c2⟩
theorem BoxPb.at (w : World) (vF vT vP : Value) (ty : TypeId) : BoxPb (w.alloc (.cells #[vF, vT, vP] ty)) w.heap.size vF vT vP := ⟨by simp, by simp [World.cell?_alloc_new], by simp [World.cell?_alloc_new], by simp [World.cell?_alloc_new]⟩
def W3 (W : World) (n : Nat) (a : Option Addr) (len cap : Nat) (vF vT vP : Value) : World := ((W.alloc (.cells #[.int .i64 (n : Int), .slice a len cap] 26)).alloc (.cells #[vF, vT, vP] 117)).alloc (.cells #[.slice none 0 0, .slice none 0 0, .slice none 0 0] 117)
structure Pre3 (W w : World) (n : Nat) (a : Option Addr) (len cap : Nat) (vF vT vP : Value) : Prop where
 b : Below W.heap.size W w
 sz : W.heap.size + 3 ≤ w.heap.size
 bg : BoxGr w W.heap.size n a len cap
 bp : BoxPb w (W.heap.size + 1) vF vT vP
 rz : ZerP w (W.heap.size + 2)
theorem Pre3.start (W : World) (n : Nat) (a : Option Addr) (len cap : Nat) (vF vT vP : Value) : Pre3 W (W3 W n a len cap vF vT vP) n a len cap vF vT vP := by
 unfold W3
 have e1 : (W.alloc (.cells #[.int .i64 (n : Int), .slice a len cap] 26)).heap.size = W.heap.size + 1 := by simp
 have e2 : ((W.alloc (.cells #[.int .i64 (n : Int), .slice a len cap] 26)).alloc (.cells #[vF, vT, vP] 117)).heap.size = W.heap.size + 2 := by simp
 have b1 := belAl W (.cells #[.int .i64 (n : Int), .slice a len cap] 26)
 have b2 := belAl (W.alloc (.cells #[.int .i64 (n : Int), .slice a len cap] 26)) (.cells #[vF, vT, vP] 117)
 have b3 := belAl ((W.alloc (.cells #[.int .i64 (n : Int), .slice a len cap] 26)).alloc (.cells #[vF, vT, vP] 117)) (.cells #[.slice none 0 0, .slice none 0 0, .slice none 0 0] 117)
 refine ⟨(b1.step b2).step b3, by simp, ((BoxGr.at rfl).below b2).below b3, ?_, ?_⟩
 ·have := (BoxPb.at (W.alloc (.cells #[.int .i64 (n : Int), .slice a len cap] 26)) vF vT vP 117).below b3
  rwa [e1] at this
 ·have := ZerP.at ((W.alloc (.cells #[.int .i64 (n : Int), .slice a len cap] 26)).alloc (.cells #[vF, vT, vP] 117)) 117
  rwa [e2] at this
theorem Pre3.below {W w w' : World} {n : Nat} {a : Option Addr} {len cap : Nat} {vF vT vP : Value} (h : Pre3 W w n a len cap vF vT vP) (hb : Below w.heap.size w w') : Pre3 W w' n a len cap vF vT vP :=
 ⟨h.b.step hb, Nat.le_trans h.sz hb.size, h.bg.below hb, h.bp.below hb, h.rz.below hb⟩
theorem Pre3.kept {K : Nat → Prop} {W w w' : World} {n : Nat} {a : Option Addr} {len cap : Nat} {vF vT vP : Value} (h : Pre3 W w n a len cap vF vT vP) (hk : Kept K w w') (hn : ∀ k, k < W.heap.size + 3 → ¬ K k) : Pre3 W w' n a len cap vF vT vP :=
 ⟨h.b.trans (hk.below h.b.size fun k h1 h2 => hn k (by omega) h2), Nat.le_trans h.sz hk.size, h.bg.kept hk (hn _ (by omega)), h.bp.kept hk (hn _ (by omega)), h.rz.kept hk (hn _ (by omega))⟩
theorem Pre3.set {W w : World} {n : Nat} {a : Option Addr} {len cap : Nat} {vF vT vP x : Value} (h : Pre3 W w n a len cap vF vT vP) {g i : Nat} (hg : W.heap.size + 3 ≤ g) : Pre3 W (w.setCell ⟨g, i, none⟩ x) n a len cap vF vT vP :=
 h.kept (setKept (b := g)) fun k h1 h2 => by omega
def FrOk (q : QuT) (fr : List Int) : Prop := ∀ (i : Nat) x, q[i]? = some x → i ≠ 0 → gI fr x.1.toNat = x.2

set_option maxHeartbeats 16000000 in
theorem l4Shift_at (W : World) (n E : Nat) (k : Int) (hn : n ≤ 8) (hk : k ≤ 64) (a : Option Addr) (cap : Nat) (l : List BarT) (h : BarsAt W a l.length l) (hl : l.length ≤ 1048576) (hb : Bok n l) (hE : E ≤ l.length) (F T P : List Int) (hI : Inv n k l E (F, T, P)) (vF vT vP : Value) (hS : PebIs W vF vT vP (F, T, P)) (ao : Option Addr) (co : Nat) (fr : List Int) (hfr0 : IntsAt W ao n fr) (x u : Int) (hx : 0 ≤ x ∧ x < n) (hu : 0 ≤ u ∧ u < n) (q : QuT) (hq : QI n l (F, T, P) x q) (i0 : Nat) (z0 : Int) (hqi : q[i0]? = some (u, z0)) (hfr : FrOk q fr) (hfu : 0 ≤ gI F u.toNat) :
  Calls Tryz.prog 177 #[.agg #[.int .i64 (n : Int), .slice a l.length cap], .agg #[vF, vT, vP], .slice ao n co, .int .i64 x, .int .i64 u] W (RetPeb W (movF F u x, back q x 10 u T, P)) := by
 have hlF : F.length = n := hI.len
 have hlT : T.length = P.length := hI.tl
 have hpl := hI.plen
 dsimp only at hpl
 have hln : (F, T, P).1.length ≤ 1048576 ∧ (F, T, P).2.1.length ≤ 1048576 ∧ (F, T, P).2.2.length ≤ 1048576 := by
  show F.length ≤ _ ∧ T.length ≤ _ ∧ P.length ≤ _
  omega
 obtain ⟨uN, rfl⟩ := Int.eq_ofNat_of_zero_le hu.1
 obtain ⟨xN, rfl⟩ := Int.eq_ofNat_of_zero_le hx.1
 have fu := hI.fr uN (by omega)
 have fx := hI.fr xN (by omega)
 dsimp only at fu fx
 have hfub : 0 ≤ gI F uN ∧ gI F uN ≤ 64 := by omega
 have hfxb : 0 ≤ gI F xN ∧ gI F xN ≤ 64 := by omega
 have PR : Hid (Pre3 W _ n a l.length cap vF vT vP) := Lib.hid (Pre3.start W n a l.length cap vF vT vP)
 unfold W3 at PR
 have H1 := Lib.hid h
 have HB := Lib.hid hb
 have HI := Lib.hid hI
 have HS := Lib.hid hS
 have HFR0 := Lib.hid hfr0
 have HFR := Lib.hid hfr
 have HQ := Lib.hid hq
 have HQI := Lib.hid hqi
 have HCP := Lib.hid fun (w : World) (b : Below W.heap.size W w) => specCpP_at w vF vT vP (F, T, P) (hS.below b) hln
 have HLF := Lib.hid hlF
 have HLT := Lib.hid hlT
 have hql := hq.le
 have hi0 := lt_of_getElem? hqi
 clear h hb hI hS hfr0 hfr hq hqi hlF hlT fu fx hfu hln
 obtain ⟨aF0, cF0, rfl, -⟩ := HS.out.iF
 obtain ⟨aT0, cT0, rfl, -⟩ := HS.out.iT
 obtain ⟨aP0, cP0, rfl, hPI⟩ := HS.out.iP
 have HPI := Lib.hid hPI
 clear hPI
 go_enter Tryz.func177, Tryz.ntmps177
 go_wp2_with fail
 generalize ((W.alloc (.cells #[.int .i64 (n : Int), .slice a l.length cap] 26)).alloc (.cells #[.slice aF0 (F, T, P).1.length cF0, .slice aT0 (F, T, P).2.1.length cT0, .slice aP0 (F, T, P).2.2.length cP0] 117)).alloc (.cells #[.slice none 0 0, .slice none 0 0, .slice none 0 0] 117) = u0 at *
 refine (HCP.out u0 PR.out.b).mono ?_
 rintro e w1 ⟨v, rfl, ⟨uF, uT, uP, rfl, P3⟩, b1⟩
 obtain ⟨gF, cF, rfl, hgF, -⟩ := ownForm P3.oF (by show 0 < F.length; have := HLF.out; omega)
 obtain ⟨aT, cT, rfl, -⟩ := P3.oT.form
 obtain ⟨aP, cP, rfl, -⟩ := P3.oP.form
 dsimp only at P3
 have HC2 : Hid (PebC u0.heap.size (w1.alloc (.cells #[.slice (some ⟨gF, 0, none⟩) F.length cF, .slice aT T.length cT, .slice aP P.length cP] 117)) w1.heap.size (.slice (some ⟨gF, 0, none⟩) F.length cF) (.slice aT T.length cT) (.slice aP P.length cP) (F, T, P)) := Lib.hid (PebC.new P3 (Nat.le_refl _) b1.size)
 have PR2 := Lib.hid ((PR.out.below b1).below (belAl w1 (.cells #[.slice (some ⟨gF, 0, none⟩) F.length cF, .slice aT T.length cT, .slice aP P.length cP] 117)))
 have hus := PR.out.sz
 have hw1 := b1.size
 clear P3 HCP PR b1
 go_upto_region 2 with (fail)
 generalize (w1.alloc (.cells #[.slice (some ⟨gF, 0, none⟩) F.length cF, .slice aT T.length cT, .slice aP P.length cP] 117)) = w2 at *
 have c0 := HC2.out.c0
 have hsb := HC2.out.hi
 have t0 := HC2.out.oF.gcell (k := uN) (by show uN < F.length; have := HLF.out; omega)
 have tz := HC2.out.oF.gfroz uN
 have hsF : gF < w2.heap.size := (HC2.out.oF.lt _ rfl).2
 dsimp only at t0
 obtain ⟨fu, hfu1⟩ : ∃ fu, fu = gI F uN := ⟨_, rfl⟩
 rw [← hfu1] at t0 hfub
 have HFU := Lib.hid hfu1
 have hfl1 : (uN : Int) < (F.length : Int) := by have := HLF.out; omega
 have hfl2 : (xN : Int) < (F.length : Int) := by have := HLF.out; omega
 have hwr := IntWalk.i64_in (fu - 1) (by omega)
 have HC3 := Lib.hid ((HC2.out.setF uN (fu - 1)).below (Below.refl _ _).drew)
 have PR3 := Lib.hid ((PR2.out.set (g := gF) (i := uN) (x := .int .i64 (fu - 1)) (by omega)).below (Below.refl _ _).drew)
 clear hfu1
 go_region
 clear c0 hsb t0 tz hsF hwr HC2 PR2
 generalize (w2.setCell ⟨gF, uN, none⟩ (.int .i64 (fu - 1))).drew = w3 at *
 have c0 := HC3.out.c0
 have hsb := HC3.out.hi
 have t0 := HC3.out.oF.gcell (k := xN) (by show xN < (F.set uN (fu - 1)).length; rw [List.length_set]; have := HLF.out; omega)
 have tz := HC3.out.oF.gfroz xN
 have hsF : gF < w3.heap.size := (HC3.out.oF.lt _ rfl).2
 dsimp only at t0
 obtain ⟨fx, hfx1⟩ : ∃ fx, fx = gI (F.set uN (fu - 1)) xN := ⟨_, rfl⟩
 rw [← hfx1] at t0
 have hfx2 : -1 ≤ fx ∧ fx ≤ 64 := by
  rw [hfx1, gI_set (by have := HLF.out; omega)]
  split <;> omega
 have HMV := Lib.hid (show (F.set uN (fu - 1)).set xN (fx + 1) = movF F (uN : Int) (xN : Int) by
  unfold movF; rw [hfx1, HFU.out]; rfl)
 have hwr := IntWalk.i64_in (fx + 1) (by omega)
 have HC4 := Lib.hid ((HC3.out.setF xN (fx + 1)).below (Below.refl _ _).drew)
 have PR4 := Lib.hid ((PR3.out.set (g := gF) (i := xN) (x := .int .i64 (fx + 1)) (by omega)).below (Below.refl _ _).drew)
 clear hfx1
 go_wp2_with fail
 go_region
 clear c0 hsb t0 tz hsF hwr HC3 PR3
 generalize (w3.setCell ⟨gF, xN, none⟩ (.int .i64 (fx + 1))).drew = w4 at *
 try dsimp only at HC4
 rw [HMV.out] at HC4
 obtain ⟨F2, hF2⟩ : ∃ F2, F2 = movF F (uN : Int) (xN : Int) := ⟨_, rfl⟩
 rw [← hF2] at HC4
 have HF2 := Lib.hid hF2
 have HL2 := Lib.hid (show F2.length = F.length by rw [hF2]; unfold movF; rw [List.length_set, List.length_set])
 clear hF2 HMV
 go_wp2_with fail
 go_loopw [12] (fun z w9 => ∃ (f i' : Nat) (u' : Int × Int) (T' : List Int), z = .int .i64 u'.1 ∧ q[i']? = some u' ∧ i' < f ∧ Agree (F, T, P) q T' i' ∧ PebC u0.heap.size w9 w1.heap.size (.slice (some ⟨gF, 0, none⟩) F.length cF) (.slice aT T.length cT) (.slice aP P.length cP) (F2, T', P) ∧ Pre3 W w9 n a l.length cap (.slice aF0 F.length cF0) (.slice aT0 T.length cT0) (.slice aP0 P.length cP0) ∧ back q (xN : Int) 10 (uN : Int) T = back q (xN : Int) f u'.1 T') (fun z _ => posQ q (intOf z))
 case atStart => exact ⟨10, i0, ((uN : Int), z0), T, rfl, HQI.out, by omega, Agree.start, HC4.out, PR4.out, rfl⟩
 case round =>
  clear HC4 PR4
  obtain ⟨f, i', ⟨z, z2⟩, T', rfl, hu2, hif, hag, hpc, hpr, hbk⟩ := hrel
  dsimp only at hbk
  have PR5 := Lib.hid hpr
  clear hpr
  have hw9 := PR5.out.b.size
  have hw93 := PR5.out.sz
  by_cases hzx : z = (xN : Int)
  ·have hzb : (z != (xN : Int)) = false := by rw [hzx]; simp
   have HBK := Lib.hid (show back q (xN : Int) 10 (uN : Int) T = T' by rw [hbk, hzx, back_at (by omega)])
   have HT' := Lib.hid (show T'.length = T.length from hag.1)
   have c0 := hpc.c0
   have c1 := hpc.c1
   have c2 := hpc.c2
   have hsb := hpc.hi
   obtain ⟨⟨z0, z1, z2, y0, y1, y2⟩, ⟨f0, f1, f2⟩, gz⟩ := PR5.out.rz
   have HLD := Lib.hid (laidP (W := W) (g := W.heap.size + 2) hpc.own (by omega) (by omega) (by omega) PR5.out.b)
   clear hzx hbk hpc hu2 hag
   go_wp2_with fail
   refine bodyPost_ret (v := .agg #[.slice (some ⟨gF, 0, none⟩) F.length cF, .slice aT T.length cT, .slice aP P.length cP]) (by simp [results, Tryz.results177, go_sem, gz, y0, y1, y2]) rfl ⟨_, rfl, ?_, HLD.out.2⟩
   rw [HBK.out, ← HF2.out]
   exact HLD.out.1
  ·have hzb : (z != (xN : Int)) = true := by simpa using hzx
   have hi00 : i' ≠ 0 := fun e0 => by
    subst e0
    rw [HQ.out.hd] at hu2
    simp only [Option.some.injEq, Prod.mk.injEq] at hu2
    exact hzx hu2.1.symm
   have hzf := HFR.out i' _ hu2 hi00
   obtain ⟨j2, i2, ⟨y1, y2⟩, g1, g2, g3, g4, g5, g6, g7, g8, g9⟩ := hag.step HI.out HQ.out hu2 hi00
   dsimp only at g1 g2 g3 g6 g7 g8 g9 hzf
   have hzn := HQ.out.bd _ (List.mem_of_getElem? hu2)
   dsimp only at hzn
   have hyn := HQ.out.bd _ (List.mem_of_getElem? g5)
   dsimp only at hyn
   obtain ⟨hT9, -, -, e, he, hel, hsum, -⟩ := HI.out.hp HB.out hE (j := j2) g3
   dsimp only at hT9 he hsum
   rw [g8, g7] at hsum
   have hbe := HB.out e hel
   obtain ⟨zN, rfl⟩ := Int.eq_ofNat_of_zero_le hzn.1
   rw [Int.toNat_natCast, g1] at hzf
   have hlT' : T'.length = T.length := hag.1
   have hjT : j2 < T.length := by have := HLT.out; omega
   obtain ⟨gT, cT', heT, hgT, hgT2⟩ := ownForm hpc.oT (by show 0 < T'.length; omega)
   simp only [Value.slice.injEq] at heT
   obtain ⟨rfl, -, rfl⟩ := heT
   have c1 := hpc.c1
   have hsb9 := hpc.hi
   have tt := hpc.oT.gcell (k := j2) (by show j2 < T'.length; omega)
   have tz := hpc.oT.gfroz j2
   have hsT9 : gT < wr.heap.size := (hpc.oT.lt _ rfl).2
   -- the parts that are read
   obtain ⟨bf, of, fv, rfl, hbf, hxf, d0⟩ := (HFR0.out.below PR5.out.b).2 zN (by omega)
   have hfv : fv = (j2 : Int) := by
    have : gI fr zN = fv := by unfold gI; rw [hxf]; rfl
    omega
   rw [hfv] at d0
   obtain ⟨bp, op, pv, rfl, hbp, hxp, d1⟩ := (HPI.out.below PR5.out.b).2 j2 g3
   have hpv : pv = (e : Int) := by
    have : gI P j2 = pv := by unfold gI; rw [hxp]; rfl
    omega
   rw [hpv] at d1
   obtain ⟨bb, ob, ⟨b1, b2⟩, rfl, hbb, hxb, d2, d3⟩ := (H1.out.below PR5.out.b).2 e hel
   have hgb : gB l e = (b1, b2) := by unfold gB; rw [hxb]; rfl
   rw [hgb] at hsum hbe
   dsimp only at hsum hbe d2 d3
   obtain ⟨zg, bg0, bg1⟩ := PR5.out.bg
   obtain ⟨zp, bp0, bp1, bp2⟩ := PR5.out.bp
   have HCO : Hid (∀ w, Calls Tryz.prog 149 #[.agg #[.int .i64 b1, .int .i64 b2], .int .i64 (zN : Int)] w fun e w' => e = .returned (.int .i64 y1) ∧ Below w.heap.size w w') := Lib.hid fun w => l4Other_any b1 b2 (zN : Int) y1 (by omega) (by omega) (by omega) (by omega) w
   obtain ⟨f, rfl⟩ : ∃ g, f = g + 1 := ⟨f - 1, by omega⟩
   have HBK := Lib.hid (show back q (xN : Int) 10 (uN : Int) T = back q (xN : Int) f y1 (T'.set j2 (zN : Int)) by
    rw [hbk, back, if_neg hzx, g2, Int.toNat_natCast, g6])
   have HPC := Lib.hid hpc
   have HG := Lib.hid (And.intro g5 (And.intro g4 g9))
   have HU2 := Lib.hid hu2
   have HLT9 := Lib.hid hlT'
   have s1 : (zN : Int) < (n : Int) := by omega
   have s2 : (j2 : Int) < (P.length : Int) := by omega
   have s3 : (e : Int) < (l.length : Int) := by omega
   have s4 : (0 : Int) ≤ (e : Int) := by omega
   have s5 : (0 : Int) ≤ (j2 : Int) := by omega
   have s6 : (j2 : Int) < (T.length : Int) := by omega
   have s7 : (0 : Int) ≤ (zN : Int) := by omega
   have hwd := @Wd.cells
   clear hbk hpc hu2 hag g1 g2 g3 g5 g6 g7 g8 g9 hlT' hi00 hzx hzf hsum hbe hgb hxb hxp hxf hfv hpv he hT9
   go_upto_region 7 with (fail)
   refine wp_region_wd (by kernel_rfl) (by kernel_rfl) ?_
   repeat (go_big_quiet_step (first | (go_at_call 149; exact Calls.wd_of (HCO.out _))))
   refine wpQuiet_nil ?_
   intro n1
   have bn := n1.h
   have HPC2 := Lib.hid (HPC.out.below bn)
   have PR6 := Lib.hid (PR5.out.below bn)
   clear d0 d1 d2 d3 zg bg0 bg1 zp bp0 bp1 bp2 c1 tt tz hsT9 hsb9 HPC PR5 HCO hwd bn hbf hbp hbb
   generalize n1.w = w6 at *
   have c1 := HPC2.out.c1
   have hsb9 := HPC2.out.hi
   have tt := HPC2.out.oT.gcell (k := j2) (by show j2 < T'.length; have := HLT9.out; omega)
   have tz := HPC2.out.oT.gfroz j2
   have hsT9 : gT < w6.heap.size := (HPC2.out.oT.lt _ rfl).2
   go_wp2_with fail
   go_roundw
   case rel => exact ⟨f, i2, (y1, y2), T'.set j2 (zN : Int), rfl, HG.out.1, by omega, HG.out.2.2, HPC2.out.setT j2 (zN : Int), PR6.out.set (by omega), HBK.out⟩
   case measure =>
    have p1 := posQ_at HQ.out.nd HG.out.1
    have p2 := posQ_at HQ.out.nd HU2.out
    dsimp only at p1 p2
    simp only [intOf]
    omega

theorem infoBool : (Tryz.prog.info? 4).map (fun i => (i.zero, i.size, i.bytes)) = some (some (.bool false), 1, 1) := by kernel_rfl
def seenV (n : Nat) (q : QuT) : List Value := (List.range n).map fun j : Nat => Value.bool (seenQ q (j : Int))
theorem seenV_get {n j : Nat} {q : QuT} (h : j < n) : (seenV n q)[j]? = some (.bool (seenQ q (j : Int))) := by simp [seenV, h]
theorem seenQ_snoc (q : QuT) (x : Int × Int) (v : Int) : seenQ (q ++ [x]) v = (seenQ q v || x.1 == v) := by unfold seenQ; rw [List.any_append]; simp
theorem seenV_set {n j : Nat} {q : QuT} {z : Int} : (seenV n q).set j (.bool true) = seenV n (q ++ [((j : Int), z)]) := by
 refine List.ext_getElem (by simp [seenV]) fun i h1 h2 => ?_
 have hi : i < n := by simpa [seenV] using h2
 rw [List.getElem_set]
 simp only [seenV, List.getElem_map, List.getElem_range, seenQ_snoc]
 by_cases e : j = i
 ·subst e; simp
 ·rw [if_neg e]
  have : ((j : Int) == (i : Int)) = false := by rw [beq_eq_false_iff_ne]; omega
  rw [this, Bool.or_false]
theorem seenV_nil (n : Nat) : seenV n [] = List.replicate n (.bool false) := by
 refine List.eq_replicate_iff.2 ⟨by simp [seenV], fun b hb => ?_⟩
 obtain ⟨j, _, rfl⟩ := List.mem_map.1 hb
 rfl
theorem FrOk.snoc {q : QuT} {fr : List Int} (h : FrOk q fr) {n vN : Nat} {z : Int} (hl : fr.length = n) (hv : vN < n) (hb : ∀ x ∈ q, 0 ≤ x.1 ∧ x.1 < n) (hs : ¬ seenQ q (vN : Int) = true) : FrOk (q ++ [((vN : Int), z)]) (fr.set vN z) := by
 intro i x hx hi
 rcases Nat.lt_or_ge i q.length with hlt | hge
 ·rw [List.getElem?_append_left hlt] at hx
  have hx0 := hb x (List.mem_of_getElem? hx)
  rw [gI_set (by omega), if_neg ?_]
  ·exact h i x hx hi
  ·intro e
   apply hs
   rw [seenQ_iff]
   refine List.mem_map.2 ⟨x, List.mem_of_getElem? hx, ?_⟩
   show x.1 = (vN : Int)
   omega
 ·rw [List.getElem?_append_right hge] at hx
  have : i - q.length = 0 := by
   rcases Nat.eq_zero_or_pos (i - q.length) with e | e
   ·exact e
   ·rw [List.getElem?_eq_none (by simp; omega)] at hx; cases hx
  rw [this] at hx
  simp at hx
  subst hx
  show gI (fr.set vN z) (vN : Int).toNat = z
  rw [Int.toNat_natCast, gI_set (by omega), if_pos rfl]
structure QuS (w : World) (B gf gs : Nat) (t : Value) (q : QuT) : Prop where
 ot : OwnInts w B t (q.map (·.1))
 tf : t.ownBlock ≠ some gf
 ts : t.ownBlock ≠ some gs
structure FdS (w : World) (B n gf gs : Nat) (q : QuT) : Prop where
 lo : B ≤ gf ∧ gf < gs ∧ gs < w.heap.size
 fr : ∃ fr, fr.length = n ∧ FrOk q fr ∧ OwnInts w B (.slice (some ⟨gf, 0, none⟩) n n) fr
 sn : w.ownsRow B 4 1 (.slice (some ⟨gs, 0, none⟩) n n) n (seenV n q)
theorem QuS.kept {K : Nat → Prop} {w w' : World} {B gf gs : Nat} {t : Value} {q : QuT} (h : QuS w B gf gs t q) (hk : Kept K w w') (hn : ∀ k, t.ownBlock = some k → ¬ K k) : QuS w' B gf gs t q := ⟨hk.ownsRow h.ot hn, h.tf, h.ts⟩
theorem QuS.below {w w' : World} {B gf gs : Nat} {t : Value} {q : QuT} (h : QuS w B gf gs t q) (hb : Below w.heap.size w w') : QuS w' B gf gs t q := h.kept (Kept.of_below (S := fun _ => False) hb) fun _ _ => id
theorem FdS.kept {K : Nat → Prop} {w w' : World} {B n gf gs : Nat} {q : QuT} (h : FdS w B n gf gs q) (hk : Kept K w w') (h1 : ¬ K gf) (h2 : ¬ K gs) : FdS w' B n gf gs q := by
 obtain ⟨fr, f1, f2, f3⟩ := h.fr
 exact ⟨⟨h.lo.1, h.lo.2.1, Nat.lt_of_lt_of_le h.lo.2.2 hk.size⟩, ⟨fr, f1, f2, hk.ownsRow f3 fun k hk1 hh => by have : gf = k := Option.some.inj hk1; subst this; exact h1 hh⟩, hk.ownsRow h.sn fun k hk1 hh => by have : gs = k := Option.some.inj hk1; subst this; exact h2 hh⟩
theorem FdS.below {w w' : World} {B n gf gs : Nat} {q : QuT} (h : FdS w B n gf gs q) (hb : Below w.heap.size w w') : FdS w' B n gf gs q := h.kept (Kept.of_below (S := fun _ => False) hb) id id
theorem FdS.mark {w : World} {B n gf gs vN : Nat} {q : QuT} {z : Int} (h : FdS w B n gf gs q) (hv : vN < n) (hb : ∀ x ∈ q, 0 ≤ x.1 ∧ x.1 < n) (hs : ¬ seenQ q (vN : Int) = true) :
  FdS ((w.setCell ⟨gs, vN, none⟩ (.bool true)).setCell ⟨gf, vN, none⟩ (.int .i64 z)) B n gf gs (q ++ [((vN : Int), z)]) := by
 obtain ⟨fr, f1, f2, f3⟩ := h.fr
 have hne : gf ≠ gs := by have := h.lo.2.1; omega
 have k1 : Kept (fun k => k = gs) w (w.setCell ⟨gs, vN, none⟩ (.bool true)) := setKept
 have k2 : Kept (fun k => k = gf) (w.setCell ⟨gs, vN, none⟩ (.bool true)) ((w.setCell ⟨gs, vN, none⟩ (.bool true)).setCell ⟨gf, vN, none⟩ (.int .i64 z)) := setKept
 refine ⟨⟨h.lo.1, h.lo.2.1, Nat.lt_of_lt_of_le (Nat.lt_of_lt_of_le h.lo.2.2 k1.size) k2.size⟩, ⟨fr.set vN z, by rw [List.length_set]; exact f1, f2.snoc f1 hv hb hs, ?_⟩, ?_⟩
 ·exact OwnInts.gset (k1.ownsRow f3 fun k hk1 hh => by have : gf = k := Option.some.inj hk1; omega) vN z
 ·have h2 := (World.ownsRow.stored h.sn vN (.bool true)).1
  rw [@seenV_set n vN q z] at h2
  exact k2.ownsRow h2 fun k hk1 hh => by have : gs = k := Option.some.inj hk1; omega
theorem FdS.seen {w : World} {B n gf gs vN : Nat} {q : QuT} (h : FdS w B n gf gs q) (hv : vN < n) : w.cell? ⟨gs, vN, none⟩ = some (.bool (seenQ q (vN : Int))) := by
 rw [World.ownsRow.cellAt h.sn vN (by omega)]; exact seenV_get hv
theorem quNew {w w' : World} {B n gf gs : Nat} {t v' : Value} {q q2 : QuT} (h : QuS w B gf gs t q) (hd : FdS w B n gf gs q2) (hk : Kept (fun k => some k = t.ownBlock) w w') (ha : v'.ownBlock = t.ownBlock ∨ ∀ b, v'.ownBlock = some b → w.heap.size ≤ b) : v'.ownBlock ≠ some gf ∧ v'.ownBlock ≠ some gs := by
 have h1 := hd.lo
 rcases ha with ha | ha
 ·exact ⟨fun e => h.tf (ha.symm.trans e), fun e => h.ts (ha.symm.trans e)⟩
 ·exact ⟨fun e => by have := ha gf e; omega, fun e => by have := ha gs e; omega⟩
def FdR (W w' : World) (vp v : Value) : Option PebT → Prop
 | some S' => OwnPeb W.heap.size w' v S'
 | none => v = vp
def FindRet (W : World) (vp : Value) (o : Option PebT) (e : Ending) (w' : World) : Prop := ∃ v, e = .returned (.tuple #[v, .bool o.isSome]) ∧ FdR W w' vp v o ∧ Below W.heap.size W w'
theorem repl_set (n j : Nat) (h : j < n) : (List.replicate j (-1 : Int) ++ List.replicate (n - j) 0).set j (-1) = List.replicate (j + 1) (-1) ++ List.replicate (n - (j + 1)) 0 := by
 rw [List.set_append_right _ _ (by simp), List.length_replicate, Nat.sub_self, show n - j = (n - (j + 1)) + 1 by omega, List.replicate_succ, List.set_cons_zero, List.replicate_succ', List.append_assoc]
 rfl

set_option maxHeartbeats 16000000 in
theorem l4Find_at (W : World) (n E : Nat) (k : Int) (hn : n ≤ 8) (hk : k ≤ 64) (a : Option Addr) (cap : Nat) (l : List BarT) (h : BarsAt W a l.length l) (hl : l.length ≤ 1048576) (hb : Bok n l) (hE : E ≤ l.length) (F T P : List Int) (hI : Inv n k l E (F, T, P)) (aF : Option Addr) (cF : Nat) (aT : Option Addr) (cT : Nat) (aP : Option Addr) (cP : Nat) (hF : IntsAt W aF n F) (hT : IntsAt W aT P.length T) (hP : IntsAt W aP P.length P) (x y : Int) (hx : 0 ≤ x ∧ x < n) (hy : 0 ≤ y ∧ y < n) (hxy : x ≠ y) :
  Calls Tryz.prog 171 #[.agg #[.int .i64 (n : Int), .slice a l.length cap], .agg #[.slice aF n cF, .slice aT P.length cT, .slice aP P.length cP], .int .i64 x, .int .i64 y] W (FindRet W (.agg #[.slice aF n cF, .slice aT P.length cT, .slice aP P.length cP]) (findP l x y (F, T, P))) := by
 have hlF : F.length = n := hI.len
 have hlT : T.length = P.length := hI.tl
 have hpl := hI.plen
 dsimp only at hpl
 obtain ⟨m, hm⟩ : ∃ m, P.length = m := ⟨_, rfl⟩
 rw [hm] at hT hP hlT hpl ⊢
 have PR : Hid (Pre3 W _ n a l.length cap (.slice aF n cF) (.slice aT m cT) (.slice aP m cP)) := Lib.hid (Pre3.start W n a l.length cap _ _ _)
 unfold W3 at PR
 have hIs : PebIs W (.slice aF n cF) (.slice aT m cT) (.slice aP m cP) (F, T, P) := ⟨⟨aF, cF, by rw [hlF], by rw [hlF]; exact hF⟩, ⟨aT, cT, by rw [hlT], by rw [hlT]; exact hT⟩, ⟨aP, cP, by rw [hm], by rw [hm]; exact hP⟩⟩
 have H1 := Lib.hid h
 have HB := Lib.hid hb
 have HI := Lib.hid hI
 have HIS := Lib.hid hIs
 have HF := Lib.hid hF
 have HT := Lib.hid hT
 have HP := Lib.hid hP
 have HLF := Lib.hid hlF
 have HLT := Lib.hid hlT
 have HM := Lib.hid hm
 obtain ⟨i0, hinf, hz0, hz1, hz2⟩ := info_parts infoInt
 obtain ⟨i9, hinf9, hz90, hz91, hz92⟩ := info_parts infoBool
 obtain ⟨xN, rfl⟩ := Int.eq_ofNat_of_zero_le hx.1
 clear h hb hI hIs hF hT hP hlF hlT hm
 go_enter Tryz.func171, Tryz.ntmps171
 go_wp2_with (at_make; generalize ((W.alloc (.cells #[.int .i64 (n : Int), .slice a l.length cap] 26)).alloc (.cells #[.slice aF n cF, .slice aT m cT, .slice aP m cP] 117)).alloc (.cells #[.slice none 0 0, .slice none 0 0, .slice none 0 0] 117) = u0 at *; refine wpList_make_full _ rfl _ _ _ rfl u0.heap.size 3 i0 (.int .i64 0) 1 Tryz.underlying35 hinf hz0 hz1 .i64 .i64 _ _ n rfl rfl rfl rfl (by rw [hz2]; omega) (by unfold maxLen; omega) (Nat.le_refl _) ?_; intro w1 hown hgrow)
 have hus := PR.out.sz
 have PR1 := Lib.hid (PR.out.below (Below.of_grown_none hgrow))
 have HO1 : Hid (OwnInts w1 (W.heap.size + 3) (.slice (some ⟨u0.heap.size, 0, none⟩) n n) (List.replicate 0 (-1 : Int) ++ List.replicate (n - 0) 0)) := Lib.hid (by
  have h2 := ownsRow_base hown hus
  unfold OwnInts
  have e1 : (List.replicate 0 (-1 : Int) ++ List.replicate (n - 0) 0).length = n := by simp
  have e2 : (List.replicate 0 (-1 : Int) ++ List.replicate (n - 0) 0).map (Value.int .i64) = (madeCells (Value.cells (.int .i64 0)) (n * 1)).toList := by
   rw [Nat.mul_one]
   simp only [Value.cells, toList_madeCells_one]
   simp
  rw [e1, e2]
  exact h2)
 clear hown hgrow
 go_loopw [11] (fun i w9 => ∃ j : Nat, j ≤ n ∧ i = .int .i64 j ∧ OwnInts w9 (W.heap.size + 3) (.slice (some ⟨u0.heap.size, 0, none⟩) n n) (List.replicate j (-1 : Int) ++ List.replicate (n - j) 0) ∧ Pre3 W w9 n a l.length cap (.slice aF n cF) (.slice aT m cT) (.slice aP m cP)) (fun i _ => n - (intOf i).toNat)
 case atStart => exact ⟨0, Nat.zero_le _, rfl, HO1.out, PR1.out⟩
 case round =>
  clear HO1 PR1 PR
  obtain ⟨j, hj, rfl, ho, hpr⟩ := hrel
  have HO := Lib.hid ho
  have PR := Lib.hid hpr
  clear ho hpr
  obtain ⟨zg, bg0, bg1⟩ := PR.out.bg
  by_cases hlt : j < n
  ·have tt := HO.out.gcell (k := j) (by simp; omega)
   have tz := HO.out.gfroz j
   have hsF : u0.heap.size < wr.heap.size := (HO.out.lt _ rfl).2
   obtain ⟨zz, hzz⟩ : ∃ zz, zz = gI (List.replicate j (-1 : Int) ++ List.replicate (n - j) 0) j := ⟨_, rfl⟩
   rw [← hzz] at tt
   clear hzz
   have HO2 := Lib.hid (HO.out.gset j (-1))
   rw [repl_set n j hlt] at HO2
   have PR2 := Lib.hid (PR.out.set (g := u0.heap.size) (i := j) (x := .int .i64 (-1)) hus)
   go_wp2_with fail
   go_roundw
   case rel => exact ⟨j + 1, by omega, by go_num, HO2.out, PR2.out⟩
   case measure => simp [intOf]; omega
  ·obtain rfl : n = j := by omega
   go_upto_region 7 with (fail)
   have bal := belAl wr (.cells #[.int .i64 (xN : Int)] 3)
   have PR2 := Lib.hid (PR.out.below bal)
   have HO2 := Lib.hid (HO.out.below bal)
   have HT0 := Lib.hid (own1 wr (W.heap.size + 3) (xN : Int) PR.out.sz)
   have hsF : u0.heap.size < wr.heap.size := (HO.out.lt _ rfl).2
   have hqa : wr.heap.size + 1 = (wr.alloc (.cells #[.int .i64 (xN : Int)] 3)).heap.size := by simp
   clear zg bg0 bg1 HO PR bal
   generalize wr.alloc (.cells #[.int .i64 (xN : Int)] 3) = w2 at *
   have hqa2 : wr.heap.size < w2.heap.size := by omega
   clear hqa
   obtain ⟨zg, bg0, bg1⟩ := PR2.out.bg
   go_upto_region 8 with (at_make; refine wpList_make_full _ rfl _ _ _ rfl w2.heap.size 4 i9 (.bool false) 1 Tryz.underlying122 hinf9 hz90 hz91 .i64 .i64 _ _ n rfl rfl rfl rfl (by rw [hz92]; omega) (by unfold maxLen; omega) (Nat.le_refl _) ?_; intro w3 hown9 hgrow9)
   have b3 := Below.of_grown_none hgrow9
   have PR3 := Lib.hid (PR2.out.below b3)
   have HT3 := Lib.hid (HT0.out.below b3)
   have HO3 := Lib.hid (HO2.out.below b3)
   have HS3 : Hid (w3.ownsRow (W.heap.size + 3) 4 1 (.slice (some ⟨w2.heap.size, 0, none⟩) n n) n (seenV n [])) := Lib.hid (by
    have h2 := ownsRow_base hown9 (Nat.le_trans (Nat.le_refl _) PR2.out.sz)
    have e2 : seenV n [] = (madeCells (Value.cells (.bool false)) (n * 1)).toList := by
     rw [Nat.mul_one, seenV_nil]
     simp only [Value.cells, toList_madeCells_one]
    rw [e2]
    exact h2)
   have hgs : w2.heap.size < w3.heap.size := (World.ownsRow.lt hown9 _ rfl).2
   clear hown9 hgrow9 zg bg0 bg1 b3 PR2 HT0 HO2
   have hxn : xN < n := by omega
   have tt : w3.cell? ⟨w2.heap.size, xN, none⟩ = some (.bool false) := by
    rw [World.ownsRow.cellAt HS3.out xN (by omega), seenV_get hxn]; rfl
   have tz := World.ownsRow.frozenAt HS3.out xN
   have hxI : (xN : Int) < (n : Int) := by omega
   go_upto_region 9 with (fail)
   have k4 : Kept (fun k => k = w2.heap.size) w3 (w3.setCell ⟨w2.heap.size, xN, none⟩ (.bool true)) := setKept
   have PR4 := Lib.hid (PR3.out.set (g := w2.heap.size) (i := xN) (x := .bool true) (by have := PR3.out.sz; omega))
   have QU4 : Hid (QuS (w3.setCell ⟨w2.heap.size, xN, none⟩ (.bool true)) (W.heap.size + 3) u0.heap.size w2.heap.size (.slice (some ⟨wr.heap.size, 0, none⟩) 1 1) [((xN : Int), -1)]) := Lib.hid ⟨k4.ownsRow HT3.out fun q hq hh => by have : wr.heap.size = q := Option.some.inj hq; omega, fun e => by have : wr.heap.size = u0.heap.size := Option.some.inj e; omega, fun e => by have : wr.heap.size = w2.heap.size := Option.some.inj e; omega⟩
   have FD4 : Hid (FdS (w3.setCell ⟨w2.heap.size, xN, none⟩ (.bool true)) (W.heap.size + 3) n u0.heap.size w2.heap.size [((xN : Int), -1)]) := Lib.hid (by
    refine ⟨⟨hus, by omega, Nat.lt_of_lt_of_le hgs k4.size⟩, ⟨_, ?_, ?_, k4.ownsRow HO3.out fun q hq hh => by have : u0.heap.size = q := Option.some.inj hq; omega⟩, ?_⟩
    ·simp
    ·intro i x hx2 hi
     rw [List.getElem?_eq_none (by simp; omega)] at hx2; cases hx2
    ·have h2 := (World.ownsRow.stored HS3.out xN (.bool true)).1
     rwa [@seenV_set n xN [] (-1)] at h2)
   have QS : Hid (QI n l (F, T, P) (xN : Int) [((xN : Int), -1)]) := Lib.hid (QI.start hx.1 hx.2)
   clear tt tz k4 PR3 HT3 HO3 HS3 hgs
   generalize w3.setCell ⟨w2.heap.size, xN, none⟩ (.bool true) = w4 at *
   have hgss : u0.heap.size < w2.heap.size := by omega
   generalize u0.heap.size = gf at *
   generalize w2.heap.size = gs at *
   go_wp2_with fail
   go_loopw [12, 14] (fun t i w9 => ∃ (j : Nat) (q : QuT), i = .int .i64 j ∧ j ≤ q.length ∧ QuS w9 (W.heap.size + 3) gf gs t q ∧ FdS w9 (W.heap.size + 3) n gf gs q ∧ Pre3 W w9 n a l.length cap (.slice aF n cF) (.slice aT m cT) (.slice aP m cP) ∧ QI n l (F, T, P) (xN : Int) q ∧ outer l (F, T, P) y 10 0 [((xN : Int), -1)] = outer l (F, T, P) y (10 - j) j q) (fun t i _ => 10 - (intOf i).toNat)
   case atStart => exact ⟨0, [((xN : Int), -1)], rfl, Nat.zero_le _, QU4.out, FD4.out, PR4.out, QS.out, rfl⟩
   case round =>
    clear QU4 FD4 PR4 QS hqa2 hsF
    obtain ⟨j, q, rfl, hjq, hqu, hfd, hpr, hqi, hout⟩ := hrel
    have hq8 : q.length ≤ 8 := by have := hqi.le; omega
    have HU := Lib.hid hqu
    have HD := Lib.hid hfd
    have PR := Lib.hid hpr
    have HS := Lib.hid hqi
    have HOUT := Lib.hid hout
    clear hqu hfd hpr hqi hout
    by_cases hjl : j < q.length
    ·obtain ⟨u, hu⟩ : ∃ u, q[j]? = some u := ⟨_, List.getElem?_eq_getElem hjl⟩
     obtain ⟨gt, ct, rfl, hgt1, hgt2⟩ := ownForm HU.out.ot (by rw [List.length_map]; omega)
     have HU2 := HU.out
     rw [List.length_map] at HU2
     rw [List.length_map]
     have HU3 := Lib.hid HU2
     clear HU2 HU
     have t2 := HU3.out.ot.gcell (k := j) (by rw [List.length_map]; exact hjl)
     rw [get_map1 hu] at t2
     obtain ⟨uv, huv⟩ : ∃ uv, uv = u.1 := ⟨_, rfl⟩
     rw [← huv] at t2
     have HUV := Lib.hid huv
     have HUU := Lib.hid hu
     have hun := HS.out.bd _ (List.mem_of_getElem? hu)
     rw [← huv] at hun
     clear huv hu
     have hjI : (j : Int) < (q.length : Int) := by omega
     go_wp2_with fail
     clear t2
     go_loopw [12, 16] (fun t e w9 => ∃ (i : Nat) (q' : QuT), e = .int .i64 i ∧ i ≤ m ∧ q'[j]? = some u ∧ QuS w9 (W.heap.size + 3) gf gs t q' ∧ FdS w9 (W.heap.size + 3) n gf gs q' ∧ Pre3 W w9 n a l.length cap (.slice aF n cF) (.slice aT m cT) (.slice aP m cP) ∧ QI n l (F, T, P) (xN : Int) q' ∧ inner l (F, T, P) y u.1 (List.range m) q = inner l (F, T, P) y u.1 ((List.range m).drop i) q') (fun t e _ => m - (intOf e).toNat)
     case atStart => exact ⟨0, q, rfl, Nat.zero_le _, HUU.out, HU3.out, HD.out, PR.out, HS.out, rfl⟩
     case round =>
      clear HU3 HD PR HS hgt1 hgt2 hjI hq8
      obtain ⟨i, q', rfl, him, hu', hqu, hfd, hpr, hqi, hinn⟩ := hrel
      have hq8 : q'.length ≤ 8 := by have := hqi.le; omega
      have hjq' := lt_of_getElem? hu'
      have HU' := Lib.hid hu'
      have HU := Lib.hid hqu
      have HD := Lib.hid hfd
      have PR := Lib.hid hpr
      have HS := Lib.hid hqi
      have HIN := Lib.hid hinn
      clear hqu hfd hpr hqi hinn hu'
      obtain ⟨zp, bp0, bp1, bp2⟩ := PR.out.bp
      by_cases hil : i < m
      ·obtain ⟨bt, ot, tv, rfl, hbt, hxt, d1⟩ := (HT.out.below PR.out.b).2 i hil
       have htv : gI T i = tv := by unfold gI; rw [hxt]; rfl
       obtain ⟨hTr, hhop, hhne, e, he, hel, hsum, -⟩ := HI.out.hp HB.out hE (j := i) (by show i < P.length; have := HM.out; omega)
       obtain ⟨bq, oq, pv, rfl, hbq, hxp, d2⟩ := (HP.out.below PR.out.b).2 i hil
       dsimp only at hTr hhne he hsum
       have hpv : pv = (e : Int) := by
        have : gI P i = pv := by unfold gI; rw [hxp]; rfl
        omega
       rw [hpv] at d2
       have hbe := HB.out e hel
       obtain ⟨bb, ob, ⟨b1, b2⟩, rfl, hbb, hxb, d3, d4⟩ := (H1.out.below PR.out.b).2 e hel
       have hgb : gB l e = (b1, b2) := by unfold gB; rw [hxb]; rfl
       rw [hgb, htv] at hsum
       rw [hgb] at hbe
       rw [htv] at hTr
       dsimp only at hsum hbe d3 d4
       have HDR := Lib.hid (drop_range hil)
       have HTV := Lib.hid htv
       obtain ⟨vN, hvn⟩ := Int.eq_ofNat_of_zero_le hhop.1
       have hv0 : vN < n := by omega
       have HV := Lib.hid hvn
       rw [hvn] at hsum
       clear hxt hxp hxb hgb hpv he htv hhop hhne hvn
       have s1 : (i : Int) < (m : Int) := by omega
       have s3 : (e : Int) < (l.length : Int) := by omega
       have s4 : (0 : Int) ≤ (i : Int) := by omega
       have s6 : (0 : Int) ≤ (e : Int) := by omega
       by_cases htu : tv = uv
       ·have htn : (tv != uv) = false := by rw [htu]; simp
        have HVA := Lib.hid (show gI T i = u.1 by rw [HTV.out, htu, HUV.out])
        have HCO : Hid (∀ w, Calls Tryz.prog 149 #[.agg #[.int .i64 b1, .int .i64 b2], .int .i64 uv] w fun e w' => e = .returned (.int .i64 (vN : Int)) ∧ Below w.heap.size w w') := Lib.hid fun w => l4Other_any b1 b2 uv (vN : Int) (by rw [← htu]; exact hsum) (by omega) (by omega) (by omega) w
        obtain ⟨zg, bg0, bg1⟩ := PR.out.bg
        clear htu hsum hTr
        go_upto_region 17 with (fail)
        have hwd := @Wd.cells
        refine wp_region_wd (by kernel_rfl) (by kernel_rfl) ?_
        repeat (go_big_quiet_step (first | (go_at_call 149; exact Calls.wd_of (HCO.out _))))
        refine wpQuiet_nil ?_
        intro n1
        have bn := n1.h
        have HU5 := Lib.hid (HU.out.below bn)
        have HD5 := Lib.hid (HD.out.below bn)
        have PR5 := Lib.hid (PR.out.below bn)
        clear d1 d2 d3 d4 zp bp0 bp1 bp2 zg bg0 bg1 hbt hbq hbb HU HD PR HCO hwd bn
        generalize n1.w = w5 at *
        have t9 := HD5.out.seen hv0
        have hgsz := HD5.out.lo.2.2
        have hvI : (vN : Int) < (n : Int) := by omega
        have hvI0 : (0 : Int) ≤ (vN : Int) := by omega
        by_cases hs : seenQ q' (vN : Int) = true
        ·rw [hs] at t9
         have HNX := Lib.hid (show inner l (F, T, P) y u.1 (List.range m) q = inner l (F, T, P) y u.1 ((List.range m).drop (i + 1)) q' by
          rw [HIN.out, HDR.out, inner, if_pos HVA.out, if_pos (by rw [HV.out]; exact hs)])
         clear hs
         go_wp2_with fail
         go_roundw
         case rel => exact ⟨i + 1, q', by go_num, by omega, HU'.out, HU5.out, HD5.out, PR5.out, HS.out, HNX.out⟩
         case measure => simp [intOf]; omega
        ·have hsf : seenQ q' (vN : Int) = false := by simpa using hs
         rw [hsf] at t9
         have tz9 := World.ownsRow.frozenAt HD5.out.sn vN
         have HNS := Lib.hid hs
         have hlo := HD5.out.lo
         obtain ⟨fr0, fr1, -, fr3⟩ := HD5.out.fr
         have hgfz : gf < w5.heap.size := by omega
         have k6 : Kept (fun k => k = gs) w5 (w5.setCell ⟨gs, vN, none⟩ (.bool true)) := setKept
         have t8 := (k6.cell (b := gf) (o := vN) hgfz (by omega)).trans (fr3.gcell (k := vN) (by omega))
         have tz8 := (k6.frozen (b := gf) (o := vN) hgfz (by omega)).trans (fr3.gfroz vN)
         have hgfz6 := Nat.lt_of_lt_of_le hgfz k6.size
         obtain ⟨f0, hf0⟩ : ∃ f0, f0 = gI fr0 vN := ⟨_, rfl⟩
         rw [← hf0] at t8
         clear hf0 fr1 fr3 hs hsf k6
         go_upto_region 21 with (fail)
         have HD7 := Lib.hid (HD5.out.mark (z := (i : Int)) hv0 HS.out.bd HNS.out)
         have ks1 : Kept (fun k => k = gs) w5 (w5.setCell ⟨gs, vN, none⟩ (.bool true)) := setKept
         have ks2 : Kept (fun k => k = gf) (w5.setCell ⟨gs, vN, none⟩ (.bool true)) ((w5.setCell ⟨gs, vN, none⟩ (.bool true)).setCell ⟨gf, vN, none⟩ (.int .i64 (i : Int))) := setKept
         have HU7 := Lib.hid ((HU5.out.kept ks1 fun g hg hh => HU5.out.ts (by rw [hg, hh])).kept ks2 fun g hg hh => HU5.out.tf (by rw [hg, hh]))
         have PR7 := Lib.hid ((PR5.out.set (g := gs) (i := vN) (x := .bool true) (by omega)).set (g := gf) (i := vN) (x := .int .i64 (i : Int)) (by omega))
         clear t9 tz9 t8 tz8 hgfz6 hgfz ks1 ks2 HD5 HU5 PR5 hgsz
         generalize (w5.setCell ⟨gs, vN, none⟩ (.bool true)).setCell ⟨gf, vN, none⟩ (.int .i64 (i : Int)) = w7 at *
         have HS7 : Hid (QI n l (F, T, P) (xN : Int) (q' ++ [((vN : Int), (i : Int))])) := Lib.hid (by
          have := HS.out.snoc HI.out HB.out hE HU'.out (by show i < P.length; have := HM.out; omega) HVA.out (by rw [HV.out]; exact HNS.out)
          rwa [HV.out] at this)
         have HU9 : Hid ((q' ++ [((vN : Int), (i : Int))])[j]? = some u) := Lib.hid (by rw [List.getElem?_append_left hjq']; exact HU'.out)
         obtain ⟨bf, of, fv, rfl, hbf, hxf, d5⟩ := (HF.out.below PR7.out.b).2 vN hv0
         have hfv : gI F vN = fv := by unfold gI; rw [hxf]; rfl
         have hfb : 0 ≤ fv ∧ fv ≤ 64 := by
          have := HI.out.fr vN hv0
          dsimp only at this
          omega
         have HFV := Lib.hid hfv
         clear hxf hfv
         obtain ⟨zp, bp0, bp1, bp2⟩ := PR7.out.bp
         have hmz := PR7.out.sz
         by_cases hor : (vN : Int) = y ∨ fv = 0
         ·have HNX := Lib.hid (show inner l (F, T, P) y u.1 (List.range m) q = inner l (F, T, P) y u.1 ((List.range m).drop (i + 1)) (q' ++ [((vN : Int), (i : Int))]) by
           rw [HIN.out, HDR.out, inner, if_pos HVA.out, if_neg (by rw [HV.out]; exact HNS.out), if_pos (by rw [HV.out, Int.toNat_natCast]; show _ ∨ gI F vN = 0; rw [HFV.out]; exact hor), HV.out])
          have hq17 : (List.map (fun x : Int × Int => x.1) q').length < 1099511627776 := by rw [List.length_map]; omega
          by_cases hvy : (vN : Int) = y
          ·have hvb : ((vN : Int) != y) = false := by rw [hvy]; simp
           clear hor hvy d5 bp0 bp1 bp2 zp
           go_wp2_with (at_builtin; refine app1At rfl (.tmp 101) (.tmp 103) rfl rfl HU7.out.ot (vN : Int) rfl hq17 hmz ?_; intro v8 w8 h8 k8 a8)
           go_roundw
           case rel =>
            have hnew := quNew HU7.out HD7.out k8 a8
            exact ⟨i + 1, q' ++ [((vN : Int), (i : Int))], by go_num, by omega, HU9.out, ⟨by rw [List.map_append]; exact h8, hnew.1, hnew.2⟩, HD7.out.kept k8 (fun e => HU7.out.tf e.symm) (fun e => HU7.out.ts e.symm), PR7.out.kept k8 (fun g hg e => by have := (HU7.out.ot.lt g e.symm).1; omega), HS7.out, HNX.out⟩
           case measure => simp [intOf]; omega
          ·have hvb : ((vN : Int) != y) = true := by simpa using hvy
           have hfz : decide (0 < fv) = false := decide_eq_false (by have := hor.resolve_left hvy; omega)
           clear hor hvy
           go_wp2_with (at_builtin; refine app1At rfl (.tmp 101) (.tmp 103) rfl rfl HU7.out.ot (vN : Int) rfl hq17 hmz ?_; intro v8 w8 h8 k8 a8)
           go_roundw
           case rel =>
            have hnew := quNew HU7.out HD7.out k8 a8
            exact ⟨i + 1, q' ++ [((vN : Int), (i : Int))], by go_num, by omega, HU9.out, ⟨by rw [List.map_append]; exact h8, hnew.1, hnew.2⟩, HD7.out.kept k8 (fun e => HU7.out.tf e.symm) (fun e => HU7.out.ts e.symm), PR7.out.kept k8 (fun g hg e => by have := (HU7.out.ot.lt g e.symm).1; omega), HS7.out, HNX.out⟩
           case measure => simp [intOf]; omega
         ·rw [not_or] at hor
          have hvb : ((vN : Int) != y) = true := by simpa using hor.1
          have hfz : decide (0 < fv) = true := decide_eq_true (by omega)
          have HFD := Lib.hid (show findP l (xN : Int) y (F, T, P) = some (movF F (vN : Int) (xN : Int), back (q' ++ [((vN : Int), (i : Int))]) (xN : Int) 10 (vN : Int) T, P) by
           have hin : inner l (F, T, P) y u.1 (List.range m) q = (q' ++ [((vN : Int), (i : Int))], some (vN : Int)) := by
            rw [HIN.out, HDR.out, inner, if_pos HVA.out, if_neg (by rw [HV.out]; exact HNS.out), if_neg (by rw [HV.out, Int.toNat_natCast]; show ¬ (_ ∨ gI F vN = 0); rw [HFV.out, not_or]; exact hor), HV.out]
           unfold findP
           rw [HOUT.out, show 10 - j = (10 - (j + 1)) + 1 by omega, outer_step HUU.out]
           show (match (match inner l (F, T, P) y u.1 (List.range P.length) q with | (q', some v) => some (q', v) | (q', none) => outer l (F, T, P) y (10 - (j + 1)) (j + 1) q') with | none => _ | some (q, v) => _) = _
           rw [HM.out, hin])
          obtain ⟨fr0, fr1, fr2, fr3⟩ := HD7.out.fr
          have fr4 := fr3.form
          obtain ⟨a4, c4, he4, hi4⟩ := fr4
          rw [fr1] at he4 hi4
          simp only [Value.slice.injEq] at he4
          obtain ⟨rfl, -, rfl⟩ := he4
          have HSH := Lib.hid (l4Shift_at w7 n E k hn hk _ cap l (H1.out.below PR7.out.b) hl HB.out hE F T P HI.out _ _ _ (HIS.out.below PR7.out.b) (some ⟨gf, 0, none⟩) n fr0 hi4 (xN : Int) (vN : Int) hx ⟨by omega, by omega⟩ _ HS7.out q'.length (i : Int) (by simp) fr2 (by rw [Int.toNat_natCast, HFV.out]; exact hfb.1))
          obtain ⟨zg, bg0, bg1⟩ := PR7.out.bg
          clear hor fr1 fr2 fr3 hi4
          obtain ⟨S', hS'⟩ : ∃ S', S' = (movF F (vN : Int) (xN : Int), back (q' ++ [((vN : Int), (i : Int))]) (xN : Int) 10 (vN : Int) T, P) := ⟨_, rfl⟩
          rw [← hS'] at HSH HFD
          clear hS'
          go_wp2_with fail
          refine HSH.out.mono ?_
          rintro r w8 ⟨v, rfl, ⟨uF, uT, uP, rfl, P3⟩, b8⟩
          obtain ⟨aF', cF', rfl, -⟩ := P3.oF.form
          obtain ⟨aT', cT', rfl, -⟩ := P3.oT.form
          obtain ⟨aP', cP', rfl, -⟩ := P3.oP.form
          have PR8 := PR7.out.below b8
          obtain ⟨⟨z0, z1, z2, y0, y1, y2⟩, ⟨g0, g1, g2⟩, gz⟩ := PR8.rz
          have HLD := Lib.hid (laidP (W := W) (g := W.heap.size + 2) P3 (by omega) (by omega) (by omega) PR8.b)
          clear zg bg0 bg1 zp bp0 bp1 bp2 d5 HSH P3 PR8
          go_wp2_with fail
          exact bodyPost_ret (v := .tuple #[.agg #[.slice aF' S'.1.length cF', .slice aT' S'.2.1.length cT', .slice aP' S'.2.2.length cP'], .bool true]) (by simp [results, Tryz.results171, go_sem, gz, y0, y1, y2]) rfl ⟨_, by rw [HFD.out]; rfl, by rw [HFD.out]; exact HLD.out.1, HLD.out.2⟩
       ·have htn : (tv != uv) = true := by simpa using htu
        have HNX := Lib.hid (show inner l (F, T, P) y u.1 (List.range m) q = inner l (F, T, P) y u.1 ((List.range m).drop (i + 1)) q' by
         rw [HIN.out, HDR.out, inner, if_neg (by show ¬ gI T i = u.1; rw [HTV.out, ← HUV.out]; exact htu)])
        clear htu hsum hTr
        go_wp2_with fail
        go_roundw
        case rel => exact ⟨i + 1, q', by go_num, by omega, HU'.out, HU.out, HD.out, PR.out, HS.out, HNX.out⟩
        case measure => simp [intOf]; omega
      ·have him2 : i = m := by omega
       have HNX := Lib.hid (show inner l (F, T, P) y u.1 (List.range m) q = (q', none) by
        rw [HIN.out, List.drop_of_length_le (by simp; omega)]; rfl)
       have HOX := Lib.hid (show outer l (F, T, P) y 10 0 [((xN : Int), -1)] = outer l (F, T, P) y (10 - (j + 1)) (j + 1) q' by
        rw [HOUT.out, show 10 - j = (10 - (j + 1)) + 1 by omega, outer_step HUU.out]
        show (match inner l (F, T, P) y u.1 (List.range P.length) q with | (q', some v) => _ | (q', none) => _) = _
        rw [HM.out, HNX.out])
       clear him2
       go_wp2_with fail
       go_roundw
       case rel => exact ⟨j + 1, q', by go_num, by omega, HU.out, HD.out, PR.out, HS.out, HOX.out⟩
       case measure => simp [intOf]; omega
    ·have hj9 : j = q.length := by omega
     have HNO := Lib.hid (show findP l (xN : Int) y (F, T, P) = none by
      unfold findP
      rw [HOUT.out, hj9]
      obtain ⟨f, hf⟩ : ∃ f, 10 - q.length = f + 1 := ⟨9 - q.length, by omega⟩
      rw [hf, outer, List.getElem?_eq_none (Nat.le_refl _)])
     obtain ⟨gt, ct, rfl, hgt1, hgt2⟩ := ownForm HU.out.ot (by have := HS.out.hd; rcases q with _ | ⟨z, t⟩ <;> simp at *)
     rw [List.length_map]
     clear hj9
     obtain ⟨zp, bp0, bp1, bp2⟩ := PR.out.bp
     obtain ⟨⟨z0, z1, z2, y0, y1, y2⟩, ⟨g0, g1, g2⟩, gz⟩ := PR.out.rz
     have HBB := Lib.hid (((PR.out.b.setCell (p := ⟨W.heap.size + 2, 0, none⟩) (by simp) (.slice aF n cF)).setCell (p := ⟨W.heap.size + 2, 1, none⟩) (by simp) (.slice aT m cT)).setCell (p := ⟨W.heap.size + 2, 2, none⟩) (by simp) (.slice aP m cP))
     go_wp2_with fail
     exact bodyPost_ret (v := .tuple #[.agg #[.slice aF n cF, .slice aT m cT, .slice aP m cP], .bool false]) (by simp [results, Tryz.results171, go_sem, gz, y0, y1, y2]) rfl ⟨_, by rw [HNO.out]; rfl, by rw [HNO.out]; rfl, HBB.out⟩

def RetGa (W : World) (S : PebT) (ok : Bool) (e : Ending) (w' : World) : Prop := ∃ v, e = .returned (.tuple #[v, .bool ok]) ∧ OwnPeb W.heap.size w' v S ∧ Below W.heap.size W w'

theorem PebC.low {base base' pb : Nat} {w : World} {vF vT vP : Value} {S : PebT} (h : PebC base w pb vF vT vP S) (hb : base' ≤ base) : PebC base' w pb vF vT vP S :=
 ⟨h.c0, h.c1, h.c2, h.f0, h.f1, h.f2, ownsRow_base h.oF hb, ownsRow_base h.oT hb, ownsRow_base h.oP hb, h.dFT, h.dFP, h.dTP, h.dF, h.dT, h.dP, Nat.le_trans hb h.lo, h.hi⟩

theorem PebC.setOther {base pb g i : Nat} {w : World} {vF vT vP x : Value} {S : PebT} (h : PebC base w pb vF vT vP S) (h0 : pb ≠ g) (h1 : vF.ownBlock ≠ some g) (h2 : vT.ownBlock ≠ some g) (h3 : vP.ownBlock ≠ some g) : PebC base (w.setCell ⟨g, i, none⟩ x) pb vF vT vP S :=
 h.kept (setKept (b := g)) h0 (fun k hk e => h1 (by rw [hk, e])) (fun k hk e => h2 (by rw [hk, e])) fun k hk e => h3 (by rw [hk, e])

set_option maxHeartbeats 16000000 in
theorem l4Gather_at (W : World) (n E : Nat) (k : Int) (hn : n ≤ 8) (hk : k ≤ 64) (a : Option Addr) (cap : Nat) (l : List BarT) (h : BarsAt W a l.length l) (hl : l.length ≤ 1048576) (hb : Bok n l) (hE : E ≤ l.length) (S : PebT) (hI : Inv n k l E S) (vF vT vP : Value) (hS : PebIs W vF vT vP S) (x y : Int) (hx : 0 ≤ x ∧ x < n) (hy : 0 ≤ y ∧ y < n) (hxy : x ≠ y) (want : Int) (hw : want ≤ 7) :
  Calls Tryz.prog 159 #[.agg #[.int .i64 (n : Int), .slice a l.length cap], .agg #[vF, vT, vP], .int .i64 x, .int .i64 y, .int .i64 want] W (RetGa W (gatherP l x y want 7 S).1 (gatherP l x y want 7 S).2) := by
 have hln : S.1.length ≤ 1048576 ∧ S.2.1.length ≤ 1048576 ∧ S.2.2.length ≤ 1048576 := by
  have h1 := hI.len
  have h2 := hI.tl
  have h3 := hI.plen
  omega
 have PR : Hid (Pre3 W _ n a l.length cap vF vT vP) := Lib.hid (Pre3.start W n a l.length cap vF vT vP)
 unfold W3 at PR
 have H1 := Lib.hid h
 have HB := Lib.hid hb
 have HI := Lib.hid hI
 have HCP := Lib.hid fun (w : World) (b : Below W.heap.size W w) => specCpP_at w vF vT vP S (hS.below b) hln
 obtain ⟨aF0, cF0, hF0, -⟩ := hS.iF
 obtain ⟨aT0, cT0, hT0, -⟩ := hS.iT
 obtain ⟨aP0, cP0, hP0, -⟩ := hS.iP
 obtain ⟨xN, rfl⟩ := Int.eq_ofNat_of_zero_le hx.1
 obtain ⟨yN, rfl⟩ := Int.eq_ofNat_of_zero_le hy.1
 have hFD := fun (w1 : World) (b : Below W.heap.size W w1) (S' : PebT) (hi : Inv n k l E S') (x y : Int) (hx : 0 ≤ x ∧ x < n) (hy : 0 ≤ y ∧ y < n) (hxy : x ≠ y) (aF aT aP : Option Addr) (cF cT cP : Nat) (h1 : IntsAt w1 aF n S'.1) (h2 : IntsAt w1 aT S'.2.2.length S'.2.1) (h3 : IntsAt w1 aP S'.2.2.length S'.2.2) => l4Find_at w1 n E k hn hk a cap l (H1.out.below b) hl HB.out hE S'.1 S'.2.1 S'.2.2 hi aF cF aT cT aP cP h1 h2 h3 x y hx hy hxy
 have HFD := Lib.hid hFD
 clear h hb hI hS hln hFD
 subst hF0
 subst hT0
 subst hP0
 go_enter Tryz.func159, Tryz.ntmps159
 go_wp2_with fail
 generalize ((W.alloc (.cells #[.int .i64 (n : Int), .slice a l.length cap] 26)).alloc (.cells #[.slice aF0 S.1.length cF0, .slice aT0 S.2.1.length cT0, .slice aP0 S.2.2.length cP0] 117)).alloc (.cells #[.slice none 0 0, .slice none 0 0, .slice none 0 0] 117) = u0 at *
 refine (HCP.out u0 PR.out.b).mono ?_
 rintro e w1 ⟨v, rfl, ⟨uF, uT, uP, rfl, P3⟩, b1⟩
 obtain ⟨bF, dF, rfl, -⟩ := P3.oF.form
 obtain ⟨bT, dT, rfl, -⟩ := P3.oT.form
 obtain ⟨bP, dP, rfl, -⟩ := P3.oP.form
 have HC2 : Hid (PebC u0.heap.size (w1.alloc (.cells #[.slice bF S.1.length dF, .slice bT S.2.1.length dT, .slice bP S.2.2.length dP] 117)) w1.heap.size _ _ _ S) := Lib.hid (PebC.new P3 (Nat.le_refl _) b1.size)
 have PR2 := Lib.hid ((PR.out.below b1).below (belAl w1 (.cells #[.slice bF S.1.length dF, .slice bT S.2.1.length dT, .slice bP S.2.2.length dP] 117)))
 have hus := PR.out.sz
 have hw1 := b1.size
 clear P3 HCP PR b1
 go_wp2_with fail
 generalize (w1.alloc (.cells #[.slice bF S.1.length dF, .slice bT S.2.1.length dT, .slice bP S.2.2.length dP] 117)) = w2 at *
 go_loopg [14] 7 (fun f s wr => ∃ S', Inv n k l E S' ∧ (∃ vF vT vP, PebC (W.heap.size + 3) wr w1.heap.size vF vT vP S') ∧ Pre3 W wr n a l.length cap (.slice aF0 S.1.length cF0) (.slice aT0 S.2.1.length cT0) (.slice aP0 S.2.2.length cP0) ∧ want ≤ gI S'.1 xN + gI S'.1 yN + f ∧ gatherP l (xN : Int) (yN : Int) want 7 S = gatherP l (xN : Int) (yN : Int) want f S')
 case atStart =>
  have f1 := (HI.out.fr xN (by omega)).1
  have f2 := (HI.out.fr yN (by omega)).1
  exact ⟨S, HI.out, ⟨_, _, _, HC2.out.low hus⟩, PR2.out, by omega, rfl⟩
 case round =>
  clear HI HC2 PR2
  obtain ⟨⟨F, T, P⟩, hI, ⟨vF, vT, vP, hC⟩, hpr, hwf, hg⟩ := hrel
  have hlF : F.length = n := hI.len
  have hlT : T.length = P.length := hI.tl
  obtain ⟨gF, cF, rfl, -, -⟩ := ownForm hC.oF (by show 0 < F.length; rw [hlF]; omega)
  obtain ⟨aT, cT, rfl, -⟩ := hC.oT.form
  obtain ⟨aP, cP, rfl, -⟩ := hC.oP.form
  obtain ⟨m, hm⟩ : ∃ m, P.length = m := ⟨_, rfl⟩
  dsimp only at hC
  rw [hlF, hlT, hm] at hC
  have hc0 := hC.c0
  have hc1 := hC.c1
  have hc2 := hC.c2
  have hsb := hC.hi
  have t0 := hC.oF.gcell (k := xN) (by show xN < F.length; omega)
  have t1 := hC.oF.gcell (k := yN) (by show yN < F.length; omega)
  have hsF : gF < wr.heap.size := (hC.oF.lt _ rfl).2
  dsimp only at t0 t1 hwf
  have e1 : (xN : Int) < (n : Int) := by omega
  have e2 : (yN : Int) < (n : Int) := by omega
  have f1 := hI.fr xN (by omega)
  have f2 := hI.fr yN (by omega)
  dsimp only at f1 f2
  have hfx : 0 ≤ gI F xN ∧ gI F xN ≤ 64 := by omega
  have hfy : 0 ≤ gI F yN ∧ gI F yN ≤ 64 := by omega
  have hAt : ∀ w', Below wr.heap.size wr w' → IntsAt w' (some ⟨gF, 0, none⟩) n F ∧ IntsAt w' aT P.length T ∧ IntsAt w' aP P.length P := fun w' b => by
   obtain ⟨a1, c1, q1, i1⟩ := (hC.below b).oF.form
   obtain ⟨a2, c2, q2, i2⟩ := (hC.below b).oT.form
   obtain ⟨a3, c3, q3, i3⟩ := (hC.below b).oP.form
   dsimp only at q1 q2 q3 i1 i2 i3
   simp only [Value.slice.injEq] at q1 q2 q3
   rw [hlF] at i1
   rw [hlT] at i2
   rw [q1.1, q2.1, q3.1]
   exact ⟨i1, i2, i3⟩
  rw [hm] at hAt
  have HAT := Lib.hid hAt
  have HI := Lib.hid hI
  have HC := Lib.hid hC
  have PR := Lib.hid hpr
  have HG := Lib.hid hg
  have HM := Lib.hid hm
  have hm64 : m ≤ 1048576 := by have := hI.plen; dsimp only at this; omega
  have hxb := hC.lo
  clear hI hC hg hlF hlT hm f1 f2 hpr hAt
  obtain ⟨fx, hfx1⟩ : ∃ fx, fx = gI F xN := ⟨_, rfl⟩
  obtain ⟨fy, hfy1⟩ : ∃ fy, fy = gI F yN := ⟨_, rfl⟩
  rw [← hfx1] at t0 hfx hwf
  rw [← hfy1] at t1 hfy hwf
  have HFX := Lib.hid hfx1
  have HFY := Lib.hid hfy1
  clear hfx1 hfy1
  by_cases hlt : fx + fy < want
  ·have hd : decide (fx + fy < want) = true := decide_eq_true hlt
   have HLT : Hid (gI F (xN : Int).toNat + gI F (yN : Int).toNat < want) := Lib.hid (by rw [Int.toNat_natCast, Int.toNat_natCast, ← HFX.out, ← HFY.out]; exact hlt)
   obtain ⟨g, rfl⟩ : ∃ g, gk = g + 1 := ⟨gk - 1, by omega⟩
   go_wp2_with fail
   go_quiet (fail)
   have bd : Below wr.heap.size wr (wr.drewN nq) := drN_below (Below.refl _ _) nq
   have HC3 := Lib.hid (HC.out.below bd)
   have PR3 := Lib.hid (PR.out.below bd)
   have HA3 := Lib.hid (HAT.out _ bd)
   clear t0 t1 hc0 hc1 hc2 hsF hsb bd HC PR HAT
   generalize wr.drewN nq = w3 at *
   obtain ⟨zg, bg0, bg1⟩ := PR3.out.bg
   have hc0 := HC3.out.c0
   have hc1 := HC3.out.c1
   have hc2 := HC3.out.c2
   have hsb := HC3.out.hi
   have hw3 := PR3.out.sz
   have HCA := Lib.hid (HFD.out w3 PR3.out.b (F, T, P) HI.out (xN : Int) (yN : Int) hx hy hxy (some ⟨gF, 0, none⟩) aT aP cF cT cP HA3.out.1 (by have := HA3.out.2.1; rwa [← HM.out] at this) (by have := HA3.out.2.2; rwa [← HM.out] at this))
   dsimp only at HCA
   rw [HM.out] at HCA
   have HCB := Lib.hid fun (w5 : World) (b : Below w3.heap.size w3 w5) => HFD.out w5 (PR3.out.b.step b) (F, T, P) HI.out (yN : Int) (xN : Int) hy hx (Ne.symm hxy) (some ⟨gF, 0, none⟩) aT aP cF cT cP (HA3.out.1.below b) (by have := HA3.out.2.1.below b; rwa [← HM.out] at this) (by have := HA3.out.2.2.below b; rwa [← HM.out] at this)
   dsimp only at HCB
   rw [HM.out] at HCB
   go_wp2_with fail
   cases hf : findP l (xN : Int) (yN : Int) (F, T, P) with
   | some S' =>
    rw [hf] at HCA
    obtain ⟨i1, i2, i3, -⟩ := findP_ok HI.out HB.out hE hn hx hy hxy hf
    rw [Int.toNat_natCast] at i2 i3
    dsimp only at i2 i3
    rw [← HFX.out] at i2
    rw [← HFY.out] at i3
    have HN := Lib.hid (show gatherP l (xN : Int) (yN : Int) want 7 S = gatherP l (xN : Int) (yN : Int) want g S' by rw [HG.out]; exact gatherP_go1 HLT.out hf)
    have HI3 := Lib.hid (show Inv n k l E S' ∧ want ≤ gI S'.1 xN + gI S'.1 yN + g from ⟨i1, by rw [i2, i3]; omega⟩)
    clear hf i1 i2 i3 HCB
    refine HCA.out.mono ?_
    rintro e w4 ⟨v, rfl, ⟨uF, uT, uP, rfl, P3⟩, b4⟩
    obtain ⟨aF', cF', rfl, -⟩ := P3.oF.form
    obtain ⟨aT', cT', rfl, -⟩ := P3.oT.form
    obtain ⟨aP', cP', rfl, -⟩ := P3.oP.form
    have b5 := b4.step (belAl w4 (.cells #[.slice aF' S'.1.length cF', .slice aT' S'.2.1.length cT', .slice aP' S'.2.2.length cP'] 117))
    have P5 := Lib.hid (P3.below (belAl w4 (.cells #[.slice aF' S'.1.length cF', .slice aT' S'.2.1.length cT', .slice aP' S'.2.2.length cP'] 117)))
    have hY := BoxPb.at w4 (.slice aF' S'.1.length cF') (.slice aT' S'.2.1.length cT') (.slice aP' S'.2.2.length cP') 117
    clear P3 HCA zg bg0 bg1 hc0 hc1 hc2
    go_upto_region 8 with (fail)
    generalize (w4.alloc (.cells #[.slice aF' S'.1.length cF', .slice aT' S'.2.1.length cT', .slice aP' S'.2.2.length cP'] 117)) = w5 at *
    have PR5 := Lib.hid (PR3.out.below b5)
    have hZX := (ZerP.of HC3.out).below b5
    have hw34 := b4.size
    have HLY := Lib.hid (PebC.lay (base := W.heap.size + 3) P5.out hZX hxb (by omega))
    have PR6 := Lib.hid (((PR5.out.set (g := w1.heap.size) (i := 0) (x := .slice aF' S'.1.length cF') hxb).set (g := w1.heap.size) (i := 1) (x := .slice aT' S'.2.1.length cT') hxb).set (g := w1.heap.size) (i := 2) (x := .slice aP' S'.2.2.length cP') hxb)
    obtain ⟨⟨z0, z1, z2, y0, y1, y2⟩, ⟨g0, g1, g2⟩, gz⟩ := hZX
    obtain ⟨yz, q0, q1, q2⟩ := hY
    go_wp2_with fail
    go_roundg g
    case measure => omega
    case rel => exact ⟨S', HI3.out.1, ⟨_, _, _, HLY.out⟩, PR6.out, HI3.out.2, HN.out⟩
   | none =>
    rw [hf] at HCA
    have HF0 := Lib.hid hf
    clear hf
    refine HCA.out.mono ?_
    rintro e w4 ⟨v, rfl, rfl, b4⟩
    clear HCA zg bg0 bg1 hc0 hc1 hc2 hsb
    have b5 := b4.step (belAl w4 (.cells #[.slice (some ⟨gF, 0, none⟩) n cF, .slice aT m cT, .slice aP m cP] 117))
    have hYB : Hid (ZerP (w4.alloc (.cells #[.slice (some ⟨gF, 0, none⟩) n cF, .slice aT m cT, .slice aP m cP] 117)) w4.heap.size) := Lib.hid (ZerP.at3 w4 _ _ _ _)
    go_upto_region 5 with (fail)
    generalize w4.alloc (.cells #[.slice (some ⟨gF, 0, none⟩) n cF, .slice aT m cT, .slice aP m cP] 117) = w5 at *
    have PR5 := Lib.hid (PR3.out.below b5)
    have HC5 := Lib.hid (HC3.out.below b5)
    obtain ⟨zg, bg0, bg1⟩ := PR5.out.bg
    have hc0 := HC5.out.c0
    have hc1 := HC5.out.c1
    have hc2 := HC5.out.c2
    have hsb := HC5.out.hi
    have HCA := Lib.hid (HCB.out w5 b5)
    have hw5 := PR5.out.sz
    have hw34 := b4.size
    have hw43 : W.heap.size + 3 ≤ w4.heap.size := by omega
    have hY5 : w4.heap.size < w5.heap.size := hYB.out.2.2
    have hx3 : w1.heap.size < w4.heap.size := Nat.lt_of_lt_of_le HC3.out.hi hw34
    have HOW := Lib.hid (show ∀ q, (Value.slice (some ⟨gF, 0, none⟩) n cF).ownBlock = some q ∨ (Value.slice aT m cT).ownBlock = some q ∨ (Value.slice aP m cP).ownBlock = some q → q < w4.heap.size from fun q hq => Nat.lt_of_lt_of_le (by
     rcases hq with hq | hq | hq
     ·exact (HC3.out.oF.lt q hq).2
     ·exact (HC3.out.oT.lt q hq).2
     ·exact (HC3.out.oP.lt q hq).2) hw34)
    clear HCB HC3 PR3 HA3
    go_wp2_with fail
    cases hf2 : findP l (yN : Int) (xN : Int) (F, T, P) with
    | some S' =>
     rw [hf2] at HCA
     obtain ⟨i1, i2, i3, -⟩ := findP_ok HI.out HB.out hE hn hy hx (Ne.symm hxy) hf2
     rw [Int.toNat_natCast] at i2 i3
     dsimp only at i2 i3
     rw [← HFY.out] at i2
     rw [← HFX.out] at i3
     have HN := Lib.hid (show gatherP l (xN : Int) (yN : Int) want 7 S = gatherP l (xN : Int) (yN : Int) want g S' by rw [HG.out]; exact gatherP_go2 HLT.out HF0.out hf2)
     have HI3 := Lib.hid (show Inv n k l E S' ∧ want ≤ gI S'.1 xN + gI S'.1 yN + g from ⟨i1, by rw [i2, i3]; omega⟩)
     clear hf2 i1 i2 i3
     refine HCA.out.mono ?_
     rintro e w6 ⟨v, rfl, ⟨uF, uT, uP, rfl, P3⟩, b6⟩
     obtain ⟨aF', cF', rfl, -⟩ := P3.oF.form
     obtain ⟨aT', cT', rfl, -⟩ := P3.oT.form
     obtain ⟨aP', cP', rfl, -⟩ := P3.oP.form
     have hZY := hYB.out.below b6
     have P7 := Lib.hid (((P3.set (p := ⟨w4.heap.size, 0, none⟩) hY5 (.slice aF' S'.1.length cF')).set (p := ⟨w4.heap.size, 1, none⟩) hY5 (.slice aT' S'.2.1.length cT')).set (p := ⟨w4.heap.size, 2, none⟩) hY5 (.slice aP' S'.2.2.length cP'))
     have hL7 := PebC.lay (base := W.heap.size + 3) P3 hZY hw43 hY5
     have PR7 := Lib.hid ((((PR5.out.below b6).set (g := w4.heap.size) (i := 0) (x := .slice aF' S'.1.length cF') hw43).set (g := w4.heap.size) (i := 1) (x := .slice aT' S'.2.1.length cT') hw43).set (g := w4.heap.size) (i := 2) (x := .slice aP' S'.2.2.length cP') hw43)
     have HZ7 := Lib.hid (((((ZerP.of HC5.out).below b6).kept (setKept (b := w4.heap.size) (j := 0) (x := .slice aF' S'.1.length cF')) (by omega)).kept (setKept (b := w4.heap.size) (j := 1) (x := .slice aT' S'.2.1.length cT')) (by omega)).kept (setKept (b := w4.heap.size) (j := 2) (x := .slice aP' S'.2.2.length cP')) (by omega))
     obtain ⟨⟨z0, z1, z2, y0, y1, y2⟩, ⟨g0, g1, g2⟩, gz⟩ := hZY
     clear zg bg0 bg1 hc0 hc1 hc2 HCA P3 hYB
     go_upto_region 6 with (fail)
     clear y0 y1 y2 g0 g1 g2 gz
     generalize ((w6.setCell ⟨w4.heap.size, 0, none⟩ (.slice aF' S'.1.length cF')).setCell ⟨w4.heap.size, 1, none⟩ (.slice aT' S'.2.1.length cT')).setCell ⟨w4.heap.size, 2, none⟩ (.slice aP' S'.2.2.length cP') = w7 at *
     have HLY := Lib.hid (PebC.lay (base := W.heap.size + 3) P7.out HZ7.out hxb (by omega))
     have PR8 := Lib.hid (((PR7.out.set (g := w1.heap.size) (i := 0) (x := .slice aF' S'.1.length cF') hxb).set (g := w1.heap.size) (i := 1) (x := .slice aT' S'.2.1.length cT') hxb).set (g := w1.heap.size) (i := 2) (x := .slice aP' S'.2.2.length cP') hxb)
     obtain ⟨⟨z0, z1, z2, y0, y1, y2⟩, ⟨g0, g1, g2⟩, gz⟩ := HZ7.out
     have q0 := hL7.c0
     have q1 := hL7.c1
     have q2 := hL7.c2
     have yz := hL7.hi
     clear hL7
     go_wp2_with fail
     go_roundg g
     case measure => omega
     case rel => exact ⟨S', HI3.out.1, ⟨_, _, _, HLY.out⟩, PR8.out, HI3.out.2, HN.out⟩
    | none =>
     rw [hf2] at HCA
     have HN := Lib.hid (show gatherP l (xN : Int) (yN : Int) want 7 S = ((F, T, P), false) by rw [HG.out]; exact gatherP_no HLT.out HF0.out hf2)
     clear hf2
     refine HCA.out.mono ?_
     rintro e w6 ⟨v, rfl, rfl, b6⟩
     have hZY := hYB.out.below b6
     have PR7 := Lib.hid ((((PR5.out.below b6).set (g := w4.heap.size) (i := 0) (x := .slice (some ⟨gF, 0, none⟩) n cF) hw43).set (g := w4.heap.size) (i := 1) (x := .slice aT m cT) hw43).set (g := w4.heap.size) (i := 2) (x := .slice aP m cP) hw43)
     have hne : w1.heap.size ≠ w4.heap.size := by omega
     have n1 : (Value.slice (some ⟨gF, 0, none⟩) n cF).ownBlock ≠ some w4.heap.size := fun e => by have := HOW.out _ (.inl e); omega
     have n2 : (Value.slice aT m cT).ownBlock ≠ some w4.heap.size := fun e => by have := HOW.out _ (.inr (.inl e)); omega
     have n3 : (Value.slice aP m cP).ownBlock ≠ some w4.heap.size := fun e => by have := HOW.out _ (.inr (.inr e)); omega
     have HC7 := Lib.hid ((((HC5.out.below b6).setOther (i := 0) (x := .slice (some ⟨gF, 0, none⟩) n cF) hne n1 n2 n3).setOther (i := 1) (x := .slice aT m cT) hne n1 n2 n3).setOther (i := 2) (x := .slice aP m cP) hne n1 n2 n3)
     obtain ⟨⟨z0, z1, z2, y0, y1, y2⟩, ⟨g0, g1, g2⟩, gz⟩ := hZY
     clear zg bg0 bg1 hc0 hc1 hc2 HCA hYB hsb n1 n2 n3
     go_upto_region 6 with (fail)
     clear y0 y1 y2 g0 g1 g2 gz
     generalize ((w6.setCell ⟨w4.heap.size, 0, none⟩ (.slice (some ⟨gF, 0, none⟩) n cF)).setCell ⟨w4.heap.size, 1, none⟩ (.slice aT m cT)).setCell ⟨w4.heap.size, 2, none⟩ (.slice aP m cP) = w7 at *
     have hc0 := HC7.out.c0
     have hc1 := HC7.out.c1
     have hc2 := HC7.out.c2
     have hsb := HC7.out.hi
     obtain ⟨⟨z0, z1, z2, y0, y1, y2⟩, ⟨g0, g1, g2⟩, gz⟩ := PR7.out.rz
     have HLD := Lib.hid (laidP (W := W) (g := W.heap.size + 2) HC7.out.own (by omega) (by omega) (by omega) PR7.out.b)
     go_wp2_with fail
     exact bodyPost_ret (v := .tuple #[.agg #[.slice (some ⟨gF, 0, none⟩) n cF, .slice aT m cT, .slice aP m cP], .bool false]) (by simp [results, Tryz.results159, go_sem, gz, y0, y1, y2]) rfl ⟨_, by rw [HN.out], by rw [HN.out]; exact HLD.out.1, HLD.out.2⟩
  ·have hd : decide (fx + fy < want) = false := decide_eq_false hlt
   have HE := Lib.hid (show gatherP l (xN : Int) (yN : Int) want 7 S = ((F, T, P), true) by
    rw [HG.out]
    exact gatherP_stop (by show ¬ gI F (xN : Int).toNat + gI F (yN : Int).toNat < want; rw [Int.toNat_natCast, Int.toNat_natCast, ← HFX.out, ← HFY.out]; exact hlt) _)
   go_wp2_with fail
   go_quiet (fail)
   have bd : Below wr.heap.size wr (wr.drewN nq) := drN_below (Below.refl _ _) nq
   have HC3 := Lib.hid (HC.out.below bd)
   have PR3 := Lib.hid (PR.out.below bd)
   clear t0 t1 hc0 hc1 hc2 hsF hsb bd HC PR HAT
   generalize wr.drewN nq = w3 at *
   have hc0 := HC3.out.c0
   have hc1 := HC3.out.c1
   have hc2 := HC3.out.c2
   have hsb := HC3.out.hi
   have hw3 := PR3.out.sz
   obtain ⟨⟨z0, z1, z2, y0, y1, y2⟩, ⟨g0, g1, g2⟩, gz⟩ := PR3.out.rz
   have HLD := Lib.hid (laidP (W := W) (g := W.heap.size + 2) HC3.out.own (by omega) (by omega) (by omega) PR3.out.b)
   go_wp2_with fail
   exact bodyPost_ret (v := .tuple #[.agg #[.slice (some ⟨gF, 0, none⟩) n cF, .slice aT m cT, .slice aP m cP], .bool true]) (by simp [results, Tryz.results159, go_sem, gz, y0, y1, y2]) rfl ⟨_, by rw [HE.out], by rw [HE.out]; exact HLD.out.1, HLD.out.2⟩
end Go.Proofs.YtfbmpkdjhhcnpaaGreat


