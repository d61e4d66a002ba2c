/- Slices of Step: reading, owning, and the law's helpers on them (written by structgen.py). No condition but sizes below 2^44. -/
import Derived.Test.YtfbmpkdjhhcnpaaGreatSnP01
import Derived.Laws.StructEq
import Derived.Test.YtfbmpkdjhhcnpaaGreatSnP22
import Derived.Shelf.Sort.Plain
import Derived.Ground.Names2Prog
import Derived.Shelf.Slices.In.SortNone
import Derived.Test.YtfbmpkdjhhcnpaaGreatSnP07
import Derived.Sort.Grow
namespace Go.Proofs.YtfbmpkdjhhcnpaaGreat
open Go.RowKit
set_option maxRecDepth 100000
set_option linter.unusedVariables false
set_option linter.unnecessarySimpa false
set_option linter.unusedSimpArgs false

abbrev StepT := Int × Int × Int × Int × Int
def cellsStep (x : StepT) : List Value := [.int .i64 x.1, .int .i64 x.2.1, .int .i64 x.2.2.1, .int .i64 x.2.2.2.1, .int .i64 x.2.2.2.2]
theorem cellsStep_length (x : StepT) : (cellsStep x).length = 5 := rfl

theorem infoStep : (Tryz.prog.info? 57).map (fun i => (i.zero, i.size, i.bytes)) = some (some (.agg #[.int .i64 0, .int .i64 0, .int .i64 0, .int .i64 0, .int .i64 0]), 5, 40) := by kernel_rfl

def StepsAt (W : World) (a : Option Addr) (n : Nat) (l : List StepT) : Prop :=
 l.length = n ∧ ∀ k, k < n → ∃ b off, ∃ x : StepT, a = some ⟨b, off, none⟩ ∧ b < W.heap.size ∧ l[k]? = some x ∧ W.cell? ⟨b, off + k * 5, none⟩ = some (.int .i64 x.1) ∧ W.cell? ⟨b, off + k * 5 + 1, none⟩ = some (.int .i64 x.2.1) ∧ W.cell? ⟨b, off + k * 5 + 2, none⟩ = some (.int .i64 x.2.2.1) ∧ W.cell? ⟨b, off + k * 5 + 3, none⟩ = some (.int .i64 x.2.2.2.1) ∧ W.cell? ⟨b, off + k * 5 + 4, none⟩ = some (.int .i64 x.2.2.2.2)
theorem StepsAt.below {W W' : World} {a : Option Addr} {n : Nat} {l : List StepT} (h : StepsAt W a n l) (hk : Below W.heap.size W W') : StepsAt W' a n l :=
 ⟨h.1, fun k hkn => by
  obtain ⟨b, off, x, ha, hb, hx, c0, c1, c2, c3, c4⟩ := h.2 k hkn
  exact ⟨b, off, x, ha, Nat.lt_of_lt_of_le hb hk.size, hx, (hk.cell (p := ⟨b, off + k * 5, none⟩) hb).trans c0, (hk.cell (p := ⟨b, off + k * 5 + 1, none⟩) hb).trans c1, (hk.cell (p := ⟨b, off + k * 5 + 2, none⟩) hb).trans c2, (hk.cell (p := ⟨b, off + k * 5 + 3, none⟩) hb).trans c3, (hk.cell (p := ⟨b, off + k * 5 + 4, none⟩) hb).trans c4⟩⟩

def OwnSteps (W : World) (base : Nat) (v : Value) (l : List StepT) : Prop := W.ownsRow base 57 5 v l.length (l.flatMap cellsStep)
def IsSteps (W : World) (v : Value) (l : List StepT) : Prop := ∃ a cap, v = .slice a l.length cap ∧ StepsAt W a l.length l
theorem ownSteps_cell {W : World} {base g n cap : Nat} {l : List StepT} (h : W.ownsRow base 57 5 (.slice (some ⟨g, 0, none⟩) n cap) n (l.flatMap cellsStep)) {k : Nat} {x : StepT} (hx : l[k]? = some x) (hk : k < n) (j : Nat) (hj : j < 5) :
  W.cell? ⟨g, k * 5 + j, none⟩ = (cellsStep x)[j]? := by
 rw [World.ownsRow.cellAt h (k * 5 + j) (by omega)]
 exact flat_get cellsStep_length hx hj
theorem OwnSteps.form {W : World} {base : Nat} {v : Value} {l : List StepT} (h : OwnSteps W base v l) : IsSteps W v l := by
 rcases h.2 with ⟨rfl, h0⟩ | ⟨g, cap, cur, rfl, hb, hg, hnc, hcm, hcs, htake⟩
 ·exact ⟨none, 0, by rw [h0], rfl, fun k hk => by omega⟩
 ·refine ⟨_, cap, rfl, rfl, fun k hk => ⟨g, 0, l[k], rfl, (Array.getElem?_eq_some_iff.1 hg).1, by simp [hk], ?_⟩⟩
  have H := fun j hj => ownSteps_cell (W := W) (base := base) h (k := k) (x := l[k]) (by simp [hk]) hk j hj
  exact ⟨by have := H 0 (by omega); simpa [cellsStep] using this, by have := H 1 (by omega); simpa [cellsStep] using this, by have := H 2 (by omega); simpa [cellsStep] using this, by have := H 3 (by omega); simpa [cellsStep] using this, by have := H 4 (by omega); simpa [cellsStep] using this⟩
theorem OwnSteps.lt {W : World} {base : Nat} {v : Value} {l : List StepT} (h : OwnSteps W base v l) : ∀ k, v.ownBlock = some k → base ≤ k ∧ k < W.heap.size := World.ownsRow.lt h
theorem guardStep : Tryz.prog.eqGuardType Tryz.prog.depth 57 = false := by kernel_rfl
theorem neqStep_run (w : World) (x1 x2 x3 x4 x5 y1 y2 y3 y4 y5 : Int) :
  (binOp .neq 57 (.agg #[.int .i64 x1, .int .i64 x2, .int .i64 x3, .int .i64 x4, .int .i64 x5]) (.agg #[.int .i64 y1, .int .i64 y2, .int .i64 y3, .int .i64 y4, .int .i64 y5])).run Tryz.prog w = .ok (.bool (!(decide (((x1, x2, x3, x4, x5) : StepT) = (y1, y2, y3, y4, y5))))) w := by
 have u3 := Tryz.underlying3
 have hS : Tryz.prog.underlying 57 = some (.struct (Tryz.prog.fieldsOf 57)) := by kernel_rfl
 have hp : Tryz.prog.stoodInHeld 57 = false := by kernel_rfl
 rw [run_neq_struct, show (10000 : Nat) = 9999 + 1 from rfl, run_equalIn_agg w 9999 57 _ _ hS hp]
 simp only [Program.fieldsOf, Tryz.underlying57]
 go_simp
 by_cases h0 : x1 = y1 <;> by_cases h1 : x2 = y2 <;> by_cases h2 : x3 = y3 <;> by_cases h3 : x4 = y4 <;> by_cases h4 : x5 = y5 <;> simp [h0, h1, h2, h3, h4]
theorem neqStep_t {x1 x2 x3 x4 x5 y1 y2 y3 y4 y5 : Int} (h : ((x1, x2, x3, x4, x5) : StepT) = (y1, y2, y3, y4, y5)) (w : World) : (binOp .neq 57 (.agg #[.int .i64 x1, .int .i64 x2, .int .i64 x3, .int .i64 x4, .int .i64 x5]) (.agg #[.int .i64 y1, .int .i64 y2, .int .i64 y3, .int .i64 y4, .int .i64 y5])).run Tryz.prog w = .ok (.bool false) w := by rw [neqStep_run, decide_eq_true h]; rfl
theorem neqStep_f {x1 x2 x3 x4 x5 y1 y2 y3 y4 y5 : Int} (h : ¬ ((x1, x2, x3, x4, x5) : StepT) = (y1, y2, y3, y4, y5)) (w : World) : (binOp .neq 57 (.agg #[.int .i64 x1, .int .i64 x2, .int .i64 x3, .int .i64 x4, .int .i64 x5]) (.agg #[.int .i64 y1, .int .i64 y2, .int .i64 y3, .int .i64 y4, .int .i64 y5])).run Tryz.prog w = .ok (.bool true) w := by rw [neqStep_run, decide_eq_false h]; rfl

def barM (x y : Int) : BarT := (min x y, max x y)
def cnd0 (p : Int) (l : List BarT) (kd pt a b c : Int) : Bool := (kd == 0) && ((pt == 0) && ((c == 0) && (((l.length : Int) == 0) && difB p [a, b])))
def cnd1 (p : Int) (l : List BarT) (kd pt a b c : Int) : Bool := (kd == 1) && ((c == 0) && (difB p [pt, a, b] && (!decide (0 < degB l pt) && (decide (0 < degB l a) && decide (0 < degB l b)))))
def cnd2 (p : Int) (l : List BarT) (kd pt a b c : Int) : Bool := (kd == 2) && (difB p [pt, a, b, c] && (!decide (0 < degB l pt) && (decide (0 < degB l c) && decide (0 ≤ idxB l (barM a b)))))
def stepF (g : GraphT) (s : StepT) : GraphT × Bool :=
 if isGraphB g && decide (g.2.length ≤ 21) then
  if cnd0 g.1 g.2 s.1 s.2.1 s.2.2.1 s.2.2.2.1 s.2.2.2.2 then ((g.1, putsL g.2 [barM s.2.2.1 s.2.2.2.1]), true)
  else if cnd1 g.1 g.2 s.1 s.2.1 s.2.2.1 s.2.2.2.1 s.2.2.2.2 then ((g.1, putsL g.2 [barM s.2.1 s.2.2.1, barM s.2.1 s.2.2.2.1]), true)
  else if cnd2 g.1 g.2 s.1 s.2.1 s.2.2.1 s.2.2.2.1 s.2.2.2.2 then ((g.1, putsL (cutG g.2 (idxB g.2 (barM s.2.2.1 s.2.2.2.1)).toNat) [barM s.2.1 s.2.2.1, barM s.2.1 s.2.2.2.1, barM s.2.1 s.2.2.2.2]), true)
  else (g, false)
 else (g, false)
theorem stepF_len (g : GraphT) (s : StepT) : (stepF g s).1.2.length ≤ g.2.length + 3 := by
 unfold stepF
 split
 ·split
  ·simp [putsL_length]
  ·split
   ·simp [putsL_length]
   ·split
    ·simp only [putsL_length, cutG, List.length_append, List.length_take, List.length_drop, List.length_cons, List.length_nil]; omega
    ·simp
 ·simp
theorem isGraphB_ord {p : Int} {l : List BarT} (h : isGraphB (p, l) = true) : Ord l := by
 have key : ∀ i x y, l[i]? = some x → l[i + 1]? = some y → barLe x y = true := by
  intro i x y hx hy
  simp only [isGraphB, Bool.and_eq_true] at h
  have h1 := List.all_eq_true.1 h.2.2 (i + 1) (List.mem_range.2 (lt_of_getElem? hy))
  simp only [barAt, hy, Nat.add_sub_cancel, hx, Bool.and_eq_true, Bool.or_eq_true, beq_iff_eq] at h1
  rcases h1.2.2.2 with h2 | h2
  ·omega
  ·exact h2
 have all : ∀ (d i : Nat) x y, l[i]? = some x → l[i + d]? = some y → barLe x y = true := by
  intro d
  induction d with
  | zero => intro i x y hx hy; rw [Nat.add_zero, hx] at hy; rw [Option.some.inj hy, barLe_iff]; omega
  | succ d ih =>
   intro i x y hx hy
   have hl := lt_of_getElem? hy
   have e1 := ih i x _ hx (List.getElem?_eq_getElem (show i + d < l.length by omega))
   have e2 := key (i + d) _ y (List.getElem?_eq_getElem (show i + d < l.length by omega)) hy
   rw [barLe_iff] at *
   omega
 refine List.pairwise_iff_getElem.2 fun i j hi hj hij => ?_
 exact all (j - i) i _ _ (List.getElem?_eq_getElem hi) (by rw [show i + (j - i) = j by omega]; exact List.getElem?_eq_getElem hj)
theorem cutG_ord {l : List BarT} (k : Nat) (h : Ord l) : Ord (cutG l k) := by
 have h1 : (cutG l k).Sublist l := by
  unfold cutG
  have h2 : (l.take k ++ l.drop (k + 1)).Sublist (l.take k ++ l.drop k) := by
   refine List.Sublist.append_left ?_ _
   rw [← List.drop_drop (i := 1) (j := k)]
   exact List.drop_sublist _ _
  rwa [List.take_append_drop] at h2
 exact List.Pairwise.sublist h1 h
def BoxSt (w : World) (g : Nat) (kd pt a b c : Int) : Prop := g < w.heap.size ∧ w.cell? ⟨g, 0, none⟩ = some (.int .i64 kd) ∧ w.cell? ⟨g, 1, none⟩ = some (.int .i64 pt) ∧ w.cell? ⟨g, 2, none⟩ = some (.int .i64 a) ∧ w.cell? ⟨g, 3, none⟩ = some (.int .i64 b) ∧ w.cell? ⟨g, 4, none⟩ = some (.int .i64 c)
theorem BoxSt.below {w w' : World} {g : Nat} {kd pt a b c : Int} (h : BoxSt w g kd pt a b c) (hb : Below w.heap.size w w') : BoxSt w' g kd pt a b c :=
 ⟨Nat.lt_of_lt_of_le h.1 hb.size, ((bcell hb).1 _ _ h.1).trans h.2.1, ((bcell hb).1 _ _ h.1).trans h.2.2.1, ((bcell hb).1 _ _ h.1).trans h.2.2.2.1, ((bcell hb).1 _ _ h.1).trans h.2.2.2.2.1, ((bcell hb).1 _ _ h.1).trans h.2.2.2.2.2⟩
theorem BoxSt.at {w : World} {g : Nat} {kd pt a b c : Int} {ty : Nat} (hg : g = w.heap.size) : BoxSt (w.alloc (.cells #[.int .i64 kd, .int .i64 pt, .int .i64 a, .int .i64 b, .int .i64 c] ty)) g kd pt a b c := by
 subst hg
 exact ⟨by simp, by simp [World.cell?_alloc_new], by simp [World.cell?_alloc_new], by simp [World.cell?_alloc_new], by simp [World.cell?_alloc_new], by simp [World.cell?_alloc_new]⟩
theorem litInts {w : World} (l : List Int) {n : Nat} (hn : l.length = n) (h1 : n ≤ 1000) : IntsAt (w.alloc (.cells (l.map (Value.int .i64)).toArray 3)) (some ⟨w.heap.size, 0, none⟩) n l := by
 subst hn
 refine ⟨rfl, fun k hk => ⟨w.heap.size, 0, l[k], rfl, by simp, List.getElem?_eq_getElem hk, ?_⟩⟩
 rw [Nat.zero_add, World.cell?_alloc_new]
 simp [hk]
end Go.Proofs.YtfbmpkdjhhcnpaaGreat

namespace Go.Proofs
open Go.Shelf
def Tryz.lays189_ren : Go.Shelf.Ren := ⟨fun | 189 => 55 | 125 => 106 | 257 => 105 | 128 => 138 | 129 => 139 | 294 => 129 | 295 => 130 | 296 => 131 | 297 => 132 | 298 => 133 | 299 => 134 | 216 => 135 | 300 => 136 | 301 => 137 | 328 => 151 | 329 => 152 | 330 => 153 | 331 => 154 | 332 => 155 | 215 => 156 | 343 => 169 | n => n, fun | 28 => 35 | 3 => 3 | 46 => 114 | 0 => 0 | 51 => 141 | 53 => 143 | 4 => 4 | 183 => 134 | 182 => 133 | 131 => 138 | 5 => 5 | 9 => 9 | 218 => 153 | 222 => 157 | 228 => 168 | 229 => 169 | n => n, fun | n => n⟩
theorem Tryz.lays189 : Go.Proofs.Lays.n189 Tryz.prog Tryz.lays189_ren := {
 mixed := by kernel_rfl
 f125 := Tryz.func106.trans (congrArg some (by kernel_rfl))
 f128 := Tryz.func138.trans (congrArg some (by kernel_rfl))
 f129 := Tryz.func139.trans (congrArg some (by kernel_rfl))
 f189 := Tryz.func55.trans (congrArg some (by kernel_rfl))
 f215 := Tryz.func156.trans (congrArg some (by kernel_rfl))
 f216 := Tryz.func135.trans (congrArg some (by kernel_rfl))
 f257 := Tryz.func105.trans (congrArg some (by kernel_rfl))
 f294 := Tryz.func129.trans (congrArg some (by kernel_rfl))
 f295 := Tryz.func130.trans (congrArg some (by kernel_rfl))
 f296 := Tryz.func131.trans (congrArg some (by kernel_rfl))
 f297 := Tryz.func132.trans (congrArg some (by kernel_rfl))
 f298 := Tryz.func133.trans (congrArg some (by kernel_rfl))
 f299 := Tryz.func134.trans (congrArg some (by kernel_rfl))
 f300 := Tryz.func136.trans (congrArg some (by kernel_rfl))
 f301 := Tryz.func137.trans (congrArg some (by kernel_rfl))
 f328 := Tryz.func151.trans (congrArg some (by kernel_rfl))
 f329 := Tryz.func152.trans (congrArg some (by kernel_rfl))
 f330 := Tryz.func153.trans (congrArg some (by kernel_rfl))
 f331 := Tryz.func154.trans (congrArg some (by kernel_rfl))
 f332 := Tryz.func155.trans (congrArg some (by kernel_rfl))
 f343 := Tryz.func169.trans (congrArg some (by kernel_rfl))
 t0 := Tryz.underlying0
 a0 := Tryz.isAgg0
 z0 := Tryz.sizeOf0
 v0 := Tryz.zeroValue0
 t3 := Tryz.underlying3
 a3 := Tryz.isAgg3
 z3 := Tryz.sizeOf3
 v3 := Tryz.zeroValue3
 t4 := Tryz.underlying4
 a4 := Tryz.isAgg4
 z4 := Tryz.sizeOf4
 v4 := Tryz.zeroValue4
 t5 := Tryz.underlying5
 a5 := Tryz.isAgg5
 z5 := Tryz.sizeOf5
 v5 := Tryz.zeroValue5
 t9 := Tryz.underlying9
 a9 := Tryz.isAgg9
 z9 := Tryz.sizeOf9
 v9 := Tryz.zeroValue9
 t28 := Tryz.underlying35
 a28 := Tryz.isAgg35
 z28 := Tryz.sizeOf35
 v28 := Tryz.zeroValue35
 t46 := Tryz.underlying114
 a46 := Tryz.isAgg114
 z46 := Tryz.sizeOf114
 v46 := Tryz.zeroValue114
 t51 := Tryz.underlying141
 a51 := Tryz.isAgg141
 z51 := Tryz.sizeOf141
 v51 := Tryz.zeroValue141
 t53 := Tryz.underlying143
 a53 := Tryz.isAgg143
 z53 := Tryz.sizeOf143
 v53 := Tryz.zeroValue143
 t131 := Tryz.underlying138
 a131 := Tryz.isAgg138
 z131 := Tryz.sizeOf138
 v131 := Tryz.zeroValue138
 t182 := Tryz.underlying133
 a182 := Tryz.isAgg133
 z182 := Tryz.sizeOf133
 v182 := Tryz.zeroValue133
 t183 := Tryz.underlying134
 a183 := Tryz.isAgg134
 z183 := Tryz.sizeOf134
 v183 := Tryz.zeroValue134
 t218 := Tryz.underlying153
 a218 := Tryz.isAgg153
 z218 := Tryz.sizeOf153
 v218 := Tryz.zeroValue153
 t222 := Tryz.underlying157
 a222 := Tryz.isAgg157
 z222 := Tryz.sizeOf157
 v222 := Tryz.zeroValue157
 t228 := Tryz.underlying168
 a228 := Tryz.isAgg168
 z228 := Tryz.sizeOf168
 v228 := Tryz.zeroValue168
 t229 := Tryz.underlying169
 a229 := Tryz.isAgg169
 z229 := Tryz.sizeOf169
 v229 := Tryz.zeroValue169 }
open Go.Sort Go.RowKit in
theorem Tryz.slices_Sort_int (blk off cap : Nat) (zs : List Int) (w : World) (hH : Holds (Value.int .i64) w blk off zs.toArray) (hblk : blk < w.heap.size) (hsz : zs.length < 4611686018427387904) :
  Calls Tryz.prog 55 #[.slice (some ⟨blk, off, none⟩) zs.length cap] w fun e w' =>
   e = .returned (.tuple #[]) ∧ ∃ n os, w' = grow (putRow (Value.int .i64) (Sort.ahead w n) blk off (zs.mergeSort fun x y => decide (x ≤ y)).toArray) os := Any.slices_Sort_int Tryz.lays189 blk off cap zs w hH hblk hsz
open Go.RowKit Go.Sort in
theorem Tryz.slices_Sort_int_none (p : Option Addr) (cap : Nat) (w : World) :
  Calls Tryz.prog 55 #[.slice p 0 cap] w fun e w' => e = .returned (.tuple #[]) ∧ w' = w := Any.slices_Sort_int_none Tryz.lays189 p cap w
end Go.Proofs

namespace Go.Proofs.YtfbmpkdjhhcnpaaGreat
open Go.RowKit
set_option maxRecDepth 100000
set_option linter.unusedVariables false
set_option linter.unusedSimpArgs false

def leB (x y : Int) : Bool := decide (x ≤ y)
def srtL (F : List Int) : List Int := F.mergeSort leB
theorem srtL_perm (F : List Int) : (srtL F).Perm F := List.mergeSort_perm _ _
theorem srtL_length (F : List Int) : (srtL F).length = F.length := (srtL_perm F).length_eq
/-! ### the sort -/
theorem holdsI_of_block {w : World} {g : Nat} {cur : Array Value} {e : TypeId} {ss : List Int} (hb : w.heap[g]? = some (.cells cur e (0, 0))) (ht : cur.toList.take ss.length = ss.map (Value.int .i64)) : Go.Sort.Holds (Value.int .i64) w g 0 ss.toArray := by
 intro j hj
 have hj' : j < ss.length := by simpa using hj
 refine ⟨?_, by simp [World.frozen?, hb]⟩
 have h1 : (cur.toList.take ss.length)[j]? = (ss.map (Value.int .i64))[j]? := by rw [ht]
 rw [List.getElem?_take_of_lt hj'] at h1
 simp only [World.cell?, hb, Nat.zero_add]
 simp only [Option.isSome_none, Bool.false_eq_true, if_false]
 rw [← Array.getElem?_toList, h1]
 simp [hj']
theorem heapI_sorted {w : World} {g n : Nat} {os : Array Obj} {cur : Array Value} {e : TypeId} {fr : Nat × Nat} (d : Array Int) (hb : w.heap[g]? = some (.cells cur e fr)) :
  (Go.Sort.grow (Go.Sort.putRow (Value.int .i64) (Go.Sort.ahead w n) g 0 d) os).heap[g]? = some (.cells (Go.Sort.putCells (Value.int .i64) 0 d cur) e fr) := by
 have hg : g < w.heap.size := (Array.getElem?_eq_some_iff.1 hb).1
 rw [Go.Sort.heap_grow_old _ _ (by simpa using hg)]
 simp [Go.Sort.putRow, Go.Sort.mapBlock, Go.Sort.ahead, Array.getElem?_modify, hb, Go.Sort.onCells]
theorem keptI_sorted {w : World} {g n : Nat} {os : Array Obj} (d : Array Int) : Kept (fun k => k = g) w (Go.Sort.grow (Go.Sort.putRow (Value.int .i64) (Go.Sort.ahead w n) g 0 d) os) := by
 refine ⟨rfl, rfl, rfl, by simp, fun k hk hne => ?_⟩
 rw [Go.Sort.heap_grow_old _ _ (by simpa using hk)]
 have : g ≠ k := fun e => hne e.symm
 simp [Go.Sort.putRow, Go.Sort.mapBlock, Go.Sort.ahead, Array.getElem?_modify, this]
theorem takeI_putCells (cur : Array Value) (ts : List Int) (h : ts.length ≤ cur.size) : (Go.Sort.putCells (Value.int .i64) 0 ts.toArray cur).toList.take ts.length = ts.map (Value.int .i64) := by
 apply List.ext_getElem?
 intro j
 by_cases hj : j < ts.length
 ·rw [List.getElem?_take_of_lt hj, Array.getElem?_toList]
  simp [Go.Sort.putCells, hj, show j < cur.size by omega]
 ·rw [List.getElem?_take_eq_none (by omega), List.getElem?_eq_none (by simp; omega)]
theorem ownI_sorted {w : World} {base g cap n : Nat} {e : TypeId} {os : Array Obj} {cur : Array Value} {ss ts : List Int} (hl : ts.length = ss.length) (hbase : base ≤ g) (hb : w.heap[g]? = some (.cells cur e (0, 0)))
  (h1 : ss.length ≤ cap) (h2 : cap ≤ maxLen) (h3 : cur.size = cap * 1) :
  (Go.Sort.grow (Go.Sort.putRow (Value.int .i64) (Go.Sort.ahead w n) g 0 ts.toArray) os).ownsRow base e 1 (.slice (some ⟨g, 0, none⟩) ss.length cap) ss.length (ts.map (Value.int .i64)) :=
 ⟨by simp [hl], .inr ⟨g, cap, _, rfl, hbase, heapI_sorted _ hb, h1, h2, by simp [Go.Sort.putCells, h3], by rw [Nat.mul_one, ← hl]; exact takeI_putCells cur ts (by omega)⟩⟩

theorem sort_own (W : World) (base : Nat) (v : Value) (F : List Int) (h : OwnInts W base v F) (hn : F.length ≤ 1099511627776) :
  Calls Tryz.prog 55 #[v] W fun e w' => e = .returned (.tuple #[]) ∧ OwnInts w' base v (srtL F) ∧ Kept (fun k => some k = v.ownBlock) W w' := by
 by_cases h0 : F.length = 0
 ·have hF : F = [] := List.eq_nil_of_length_eq_zero h0
  subst hF
  obtain ⟨a, cap, rfl, _⟩ := h.form
  refine (Tryz.slices_Sort_int_none a cap W).mono ?_
  rintro e w' ⟨rfl, rfl⟩
  exact ⟨rfl, by simpa [srtL] using h, Kept.refl _ _⟩
 ·have h2 := h
  rcases h.2 with ⟨_, e0⟩ | ⟨g, cap, cur, rfl, hb, hg, hnc, hcm, hcs, htake⟩
  ·exact absurd e0 h0
  ·refine (Tryz.slices_Sort_int g 0 cap F W (holdsI_of_block hg (by simpa using htake)) (Array.getElem?_eq_some_iff.1 hg).1 (by omega)).mono ?_
   rintro e w' ⟨rfl, n, os, rfl⟩
   refine ⟨rfl, ?_, (keptI_sorted _).mono fun k _ hk => by subst hk; rfl⟩
   have h9 := ownI_sorted (n := n) (os := os) (ts := srtL F) (srtL_length F) hb hg hnc hcm hcs
   unfold OwnInts
   rw [srtL_length]
   exact h9

def OkSteps (l : List StepT) : Prop := l.length ≤ 9223372036854775807 ∧ ∀ x ∈ l, (-9223372036854775808 ≤ x.1 ∧ x.1 ≤ 9223372036854775807) ∧ (-9223372036854775808 ≤ x.2.1 ∧ x.2.1 ≤ 9223372036854775807) ∧ (-9223372036854775808 ≤ x.2.2.1 ∧ x.2.2.1 ≤ 9223372036854775807) ∧ (-9223372036854775808 ≤ x.2.2.2.1 ∧ x.2.2.2.1 ≤ 9223372036854775807) ∧ (-9223372036854775808 ≤ x.2.2.2.2 ∧ x.2.2.2.2 ≤ 9223372036854775807)
end Go.Proofs.YtfbmpkdjhhcnpaaGreat

