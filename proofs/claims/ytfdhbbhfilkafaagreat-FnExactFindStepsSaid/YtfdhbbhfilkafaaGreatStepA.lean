/- Slices of Step: reading, owning, and the law's helpers on them (written by structgen.py). No condition but sizes below 2^44. -/
import Derived.Test.YtfdhbbhfilkafaaGreatElem
import Derived.Test.YtfdhbbhfilkafaaGreatInts
import Derived.Laws.StructEq
namespace Go.Proofs.YtfdhbbhfilkafaaGreat
open Go.RowKit
set_option maxRecDepth 100000
set_option linter.unusedVariables false
set_option linter.unusedSimpArgs false

abbrev StepT := Int × Int × Int × Int × Int
def cellsStep (x : StepT) : List Value := [.int .i64 x.1, .int .i64 x.2.1, .int .i64 x.2.2.1, .int .i64 x.2.2.2.1, .int .i64 x.2.2.2.2]
def aggStep (x : StepT) : Value := .agg #[.int .i64 x.1, .int .i64 x.2.1, .int .i64 x.2.2.1, .int .i64 x.2.2.2.1, .int .i64 x.2.2.2.2]
theorem cellsStep_length (x : StepT) : (cellsStep x).length = 5 := rfl

theorem infoStep : (Tryz.prog.info? 57).map (fun i => (i.zero, i.size, i.bytes)) = some (some (.agg #[.int .i64 0, .int .i64 0, .int .i64 0, .int .i64 0, .int .i64 0]), 5, 40) := by kernel_rfl

/-- The slice value (a, n) reads as l. -/
def StepsAt (W : World) (a : Option Addr) (n : Nat) (l : List StepT) : Prop :=
  l.length = n ∧ ∀ k, k < n → ∃ b off, ∃ x : StepT, a = some ⟨b, off, none⟩ ∧ b < W.heap.size ∧ l[k]? = some x ∧ W.cell? ⟨b, off + k * 5, none⟩ = some (.int .i64 x.1) ∧ W.cell? ⟨b, off + k * 5 + 1, none⟩ = some (.int .i64 x.2.1) ∧ W.cell? ⟨b, off + k * 5 + 2, none⟩ = some (.int .i64 x.2.2.1) ∧ W.cell? ⟨b, off + k * 5 + 3, none⟩ = some (.int .i64 x.2.2.2.1) ∧ W.cell? ⟨b, off + k * 5 + 4, none⟩ = some (.int .i64 x.2.2.2.2)
theorem StepsAt.below {W W' : World} {a : Option Addr} {n : Nat} {l : List StepT} (h : StepsAt W a n l) (hk : Below W.heap.size W W') : StepsAt W' a n l :=
  ⟨h.1, fun k hkn => by
    obtain ⟨b, off, x, ha, hb, hx, c0, c1, c2, c3, c4⟩ := h.2 k hkn
    exact ⟨b, off, x, ha, Nat.lt_of_lt_of_le hb hk.size, hx, (hk.cell (p := ⟨b, off + k * 5, none⟩) hb).trans c0, (hk.cell (p := ⟨b, off + k * 5 + 1, none⟩) hb).trans c1, (hk.cell (p := ⟨b, off + k * 5 + 2, none⟩) hb).trans c2, (hk.cell (p := ⟨b, off + k * 5 + 3, none⟩) hb).trans c3, (hk.cell (p := ⟨b, off + k * 5 + 4, none⟩) hb).trans c4⟩⟩

def OwnSteps (W : World) (base : Nat) (v : Value) (l : List StepT) : Prop := W.ownsRow base 57 5 v l.length (l.flatMap cellsStep)
def IsSteps (W : World) (v : Value) (l : List StepT) : Prop := ∃ a cap, v = .slice a l.length cap ∧ StepsAt W a l.length l
theorem IsSteps.below {W W' : World} {v : Value} {l : List StepT} (h : IsSteps W v l) (hb : Below W.heap.size W W') : IsSteps W' v l := by
  obtain ⟨a, cap, rfl, hi⟩ := h
  exact ⟨a, cap, rfl, hi.below hb⟩
theorem ownSteps_cell {W : World} {base g n cap : Nat} {l : List StepT} (h : W.ownsRow base 57 5 (.slice (some ⟨g, 0, none⟩) n cap) n (l.flatMap cellsStep)) {k : Nat} {x : StepT} (hx : l[k]? = some x) (hk : k < n) (j : Nat) (hj : j < 5) :
    W.cell? ⟨g, k * 5 + j, none⟩ = (cellsStep x)[j]? := by
  rw [World.ownsRow.cellAt h (k * 5 + j) (by omega)]
  exact flat_get cellsStep_length hx hj
theorem OwnSteps.form {W : World} {base : Nat} {v : Value} {l : List StepT} (h : OwnSteps W base v l) : IsSteps W v l := by
  rcases h.2 with ⟨rfl, h0⟩ | ⟨g, cap, cur, rfl, hb, hg, hnc, hcm, hcs, htake⟩
  · exact ⟨none, 0, by rw [h0], rfl, fun k hk => by omega⟩
  · refine ⟨_, cap, rfl, rfl, fun k hk => ⟨g, 0, l[k], rfl, (Array.getElem?_eq_some_iff.1 hg).1, by simp [hk], ?_⟩⟩
    have H := fun j hj => ownSteps_cell (W := W) (base := base) h (k := k) (x := l[k]) (by simp [hk]) hk j hj
    exact ⟨by have := H 0 (by omega); simpa [cellsStep] using this, by have := H 1 (by omega); simpa [cellsStep] using this, by have := H 2 (by omega); simpa [cellsStep] using this, by have := H 3 (by omega); simpa [cellsStep] using this, by have := H 4 (by omega); simpa [cellsStep] using this⟩
theorem OwnSteps.lt {W : World} {base : Nat} {v : Value} {l : List StepT} (h : OwnSteps W base v l) : ∀ k, v.ownBlock = some k → base ≤ k ∧ k < W.heap.size := World.ownsRow.lt h
def RetSteps (W : World) (l : List StepT) (e : Ending) (w' : World) : Prop := ∃ v, e = .returned v ∧ OwnSteps w' W.heap.size v l ∧ Below W.heap.size W w'
def HSteps (W : World) (lo hi : Nat) (v : Value) (l : List StepT) : Prop := OwnSteps W lo v l ∧ ∀ k, v.ownBlock = some k → k < hi
theorem HSteps.is {W : World} {lo hi : Nat} {v : Value} {l : List StepT} (h : HSteps W lo hi v l) : IsSteps W v l := h.1.form
theorem HSteps.kept {W W' : World} {lo hi : Nat} {v : Value} {l : List StepT} {S : Nat → Prop} (h : HSteps W lo hi v l) (hk : Kept S W W') (hd : ∀ k, lo ≤ k → k < hi → ¬ S k) : HSteps W' lo hi v l :=
  ⟨hk.ownsRow h.1 fun k hkk => hd k (h.1.lt k hkk).1 (h.2 k hkk), h.2⟩
theorem HSteps.below {W W' : World} {lo hi : Nat} {v : Value} {l : List StepT} (h : HSteps W lo hi v l) (hb : Below W.heap.size W W') : HSteps W' lo hi v l := h.kept (Kept.of_below (S := fun _ => False) hb) fun _ _ _ => id
theorem OwnSteps.h {W : World} {lo : Nat} {v : Value} {l : List StepT} (h : OwnSteps W lo v l) : HSteps W lo W.heap.size v l := ⟨h, fun k hk => (h.lt k hk).2⟩

theorem below2aStep {w : World} {o1 o2 : Obj} : Below w.heap.size w ((w.alloc o1).alloc o2) := ((Below.refl _ w).alloc (Nat.le_refl _) o1).alloc (by simp) o2
set_option maxHeartbeats 8000000 in
theorem eqStep_any (x1 x2 x3 x4 x5 y1 y2 y3 y4 y5 : Int) (w : World) :
    Calls Tryz.prog 114 #[.agg #[.int .i64 x1, .int .i64 x2, .int .i64 x3, .int .i64 x4, .int .i64 x5], .agg #[.int .i64 y1, .int .i64 y2, .int .i64 y3, .int .i64 y4, .int .i64 y5]] w fun e w' => e = .returned (.bool (decide (((x1, x2, x3, x4, x5) : StepT) = (y1, y2, y3, y4, y5)))) ∧ Below w.heap.size w w' := by
  by_cases h0 : x1 = y1
  · subst h0
    by_cases h1 : x2 = y2
    · subst h1
      by_cases h2 : x3 = y3
      · subst h2
        by_cases h3 : x4 = y4
        · subst h3
          by_cases h4 : x5 = y5
          · subst h4
            go_enter Tryz.func114, Tryz.ntmps114
            go_wp2
            go_ret
            exact ⟨by simp, below2aStep⟩
          · have hne : (x5 != y5) = true := by simpa using h4
            go_enter Tryz.func114, Tryz.ntmps114
            go_wp2
            go_ret
            exact ⟨by simp [h4], below2aStep⟩
        · have hne : (x4 != y4) = true := by simpa using h3
          go_enter Tryz.func114, Tryz.ntmps114
          go_wp2
          go_ret
          exact ⟨by simp [h3], below2aStep⟩
      · have hne : (x3 != y3) = true := by simpa using h2
        go_enter Tryz.func114, Tryz.ntmps114
        go_wp2
        go_ret
        exact ⟨by simp [h2], below2aStep⟩
    · have hne : (x2 != y2) = true := by simpa using h1
      go_enter Tryz.func114, Tryz.ntmps114
      go_wp2
      go_ret
      exact ⟨by simp [h1], below2aStep⟩
  · have hne : (x1 != y1) = true := by simpa using h0
    go_enter Tryz.func114, Tryz.ntmps114
    go_wp2
    go_ret
    exact ⟨by simp [h0], below2aStep⟩

theorem guardStep : Tryz.prog.eqGuardType Tryz.prog.depth 57 = false := by kernel_rfl
theorem neqStep_run (w : World) (x1 x2 x3 x4 x5 y1 y2 y3 y4 y5 : Int) :
    (binOp .neq 57 (.agg #[.int .i64 x1, .int .i64 x2, .int .i64 x3, .int .i64 x4, .int .i64 x5]) (.agg #[.int .i64 y1, .int .i64 y2, .int .i64 y3, .int .i64 y4, .int .i64 y5])).run Tryz.prog w = .ok (.bool (!(decide (((x1, x2, x3, x4, x5) : StepT) = (y1, y2, y3, y4, y5))))) w := by
  have u3 := Tryz.underlying3
  have hS : Tryz.prog.underlying 57 = some (.struct (Tryz.prog.fieldsOf 57)) := by kernel_rfl
  have hp : Tryz.prog.stoodInHeld 57 = false := by kernel_rfl
  rw [run_neq_struct, show (10000 : Nat) = 9999 + 1 from rfl, run_equalIn_agg w 9999 57 _ _ hS hp]
  simp only [Program.fieldsOf, Tryz.underlying57]
  go_simp
  by_cases h0 : x1 = y1 <;> by_cases h1 : x2 = y2 <;> by_cases h2 : x3 = y3 <;> by_cases h3 : x4 = y4 <;> by_cases h4 : x5 = y5 <;> simp [h0, h1, h2, h3, h4]
theorem eqlStep_run (w : World) (x1 x2 x3 x4 x5 y1 y2 y3 y4 y5 : Int) :
    (binOp .eql 57 (.agg #[.int .i64 x1, .int .i64 x2, .int .i64 x3, .int .i64 x4, .int .i64 x5]) (.agg #[.int .i64 y1, .int .i64 y2, .int .i64 y3, .int .i64 y4, .int .i64 y5])).run Tryz.prog w = .ok (.bool (decide (((x1, x2, x3, x4, x5) : StepT) = (y1, y2, y3, y4, y5)))) w := by
  have u3 := Tryz.underlying3
  have hS : Tryz.prog.underlying 57 = some (.struct (Tryz.prog.fieldsOf 57)) := by kernel_rfl
  have hp : Tryz.prog.stoodInHeld 57 = false := by kernel_rfl
  rw [run_eql_struct, show (10000 : Nat) = 9999 + 1 from rfl, run_equalIn_agg w 9999 57 _ _ hS hp]
  simp only [Program.fieldsOf, Tryz.underlying57]
  go_simp
  by_cases h0 : x1 = y1 <;> by_cases h1 : x2 = y2 <;> by_cases h2 : x3 = y3 <;> by_cases h3 : x4 = y4 <;> by_cases h4 : x5 = y5 <;> simp [h0, h1, h2, h3, h4]
theorem neqStep_t {x1 x2 x3 x4 x5 y1 y2 y3 y4 y5 : Int} (h : ((x1, x2, x3, x4, x5) : StepT) = (y1, y2, y3, y4, y5)) (w : World) : (binOp .neq 57 (.agg #[.int .i64 x1, .int .i64 x2, .int .i64 x3, .int .i64 x4, .int .i64 x5]) (.agg #[.int .i64 y1, .int .i64 y2, .int .i64 y3, .int .i64 y4, .int .i64 y5])).run Tryz.prog w = .ok (.bool false) w := by rw [neqStep_run, decide_eq_true h]; rfl
theorem neqStep_f {x1 x2 x3 x4 x5 y1 y2 y3 y4 y5 : Int} (h : ¬ ((x1, x2, x3, x4, x5) : StepT) = (y1, y2, y3, y4, y5)) (w : World) : (binOp .neq 57 (.agg #[.int .i64 x1, .int .i64 x2, .int .i64 x3, .int .i64 x4, .int .i64 x5]) (.agg #[.int .i64 y1, .int .i64 y2, .int .i64 y3, .int .i64 y4, .int .i64 y5])).run Tryz.prog w = .ok (.bool true) w := by rw [neqStep_run, decide_eq_false h]; rfl
theorem eqlStep_t {x1 x2 x3 x4 x5 y1 y2 y3 y4 y5 : Int} (h : ((x1, x2, x3, x4, x5) : StepT) = (y1, y2, y3, y4, y5)) (w : World) : (binOp .eql 57 (.agg #[.int .i64 x1, .int .i64 x2, .int .i64 x3, .int .i64 x4, .int .i64 x5]) (.agg #[.int .i64 y1, .int .i64 y2, .int .i64 y3, .int .i64 y4, .int .i64 y5])).run Tryz.prog w = .ok (.bool true) w := by rw [eqlStep_run, decide_eq_true h]
theorem eqlStep_f {x1 x2 x3 x4 x5 y1 y2 y3 y4 y5 : Int} (h : ¬ ((x1, x2, x3, x4, x5) : StepT) = (y1, y2, y3, y4, y5)) (w : World) : (binOp .eql 57 (.agg #[.int .i64 x1, .int .i64 x2, .int .i64 x3, .int .i64 x4, .int .i64 x5]) (.agg #[.int .i64 y1, .int .i64 y2, .int .i64 y3, .int .i64 y4, .int .i64 y5])).run Tryz.prog w = .ok (.bool false) w := by rw [eqlStep_run, decide_eq_false h]

theorem eqStep_t {x1 x2 x3 x4 x5 y1 y2 y3 y4 y5 : Int} (h : ((x1, x2, x3, x4, x5) : StepT) = (y1, y2, y3, y4, y5)) (w : World) : Calls Tryz.prog 114 #[.agg #[.int .i64 x1, .int .i64 x2, .int .i64 x3, .int .i64 x4, .int .i64 x5], .agg #[.int .i64 y1, .int .i64 y2, .int .i64 y3, .int .i64 y4, .int .i64 y5]] w fun e w' => e = .returned (.bool true) ∧ Below w.heap.size w w' :=
  (eqStep_any x1 x2 x3 x4 x5 y1 y2 y3 y4 y5 w).mono fun _ _ ⟨he, hb⟩ => ⟨by rw [he, decide_eq_true h], hb⟩
theorem eqStep_f {x1 x2 x3 x4 x5 y1 y2 y3 y4 y5 : Int} (h : ¬ ((x1, x2, x3, x4, x5) : StepT) = (y1, y2, y3, y4, y5)) (w : World) : Calls Tryz.prog 114 #[.agg #[.int .i64 x1, .int .i64 x2, .int .i64 x3, .int .i64 x4, .int .i64 x5], .agg #[.int .i64 y1, .int .i64 y2, .int .i64 y3, .int .i64 y4, .int .i64 y5]] w fun e w' => e = .returned (.bool false) ∧ Below w.heap.size w w' :=
  (eqStep_any x1 x2 x3 x4 x5 y1 y2 y3 y4 y5 w).mono fun _ _ ⟨he, hb⟩ => ⟨by rw [he, decide_eq_false h], hb⟩

theorem madeCells_Step (n : Nat) : (madeCells #[.int .i64 0, .int .i64 0, .int .i64 0, .int .i64 0, .int .i64 0] (n * 5)).toList = (List.replicate n ((0, 0, 0, 0, 0) : StepT)).flatMap cellsStep := by
  have h : (List.replicate n ((0, 0, 0, 0, 0) : StepT)).flatMap cellsStep = List.replicate (n * 5) (.int .i64 0) := by
    induction n with
    | zero => rfl
    | succ n ih => rw [List.replicate_succ, List.flatMap_cons, ih, Nat.succ_mul, Nat.add_comm, ← List.replicate_append_replicate]; rfl
  rw [h]
  apply List.ext_getElem?
  intro j
  by_cases hj : j < n * 5
  · have hm : j % 5 < 5 := Nat.mod_lt _ (by omega)
    generalize hq : j % 5 = q at hm
    have hq' : ∀ (z : Array Value), z.size = 5 → z[j % z.size]! = z[q]! := fun z hz => by rw [hz, hq]
    simp only [madeCells, Array.toList_map, List.getElem?_map, Array.toList_range, List.getElem?_range hj, Option.map_some, List.getElem?_replicate, if_pos hj]
    rw [hq' _ rfl]
    match q, hm with
    | 0, _ => rfl
    | 1, _ => rfl
    | 2, _ => rfl
    | 3, _ => rfl
    | 4, _ => rfl
  · rw [List.getElem?_eq_none (by simp [size_madeCells]; omega), List.getElem?_eq_none (by simp; omega)]

set_option maxHeartbeats 8000000 in
theorem eqSteps_any (a a' : Option Addr) (n cap n' cap' : Nat) (l l' : List StepT) (W : World) (h : StepsAt W a n l) (h' : StepsAt W a' n' l') (hn : n ≤ 1099511627776) :
    Calls Tryz.prog 48 #[.slice a n cap, .slice a' n' cap'] W fun e w' => e = .returned (.bool (decide (l = l'))) ∧ Below W.heap.size W w' := by
  have hwd := @Wd.cells
  obtain ⟨hl, hc⟩ := h
  obtain ⟨hl', hc'⟩ := h'
  have HL := Lib.hid hl
  have HL' := Lib.hid hl'
  have HC := Lib.hid hc
  have HC' := Lib.hid hc'
  clear hl hc hl' hc'
  by_cases hnn : n = n'
  · subst hnn
    go_enter Tryz.func48, Tryz.ntmps48
    go_wp2
    go_loopw [5] (fun i wr => ∃ k : Nat, k ≤ n ∧ i = .int .i64 k ∧ Below W.heap.size W wr ∧ l.take k = l'.take k) (fun i _ => n - (intOf i).toNat)
    case atStart => exact ⟨0, Nat.zero_le _, rfl, Below.refl _ _, rfl⟩
    case round =>
      obtain ⟨k, hk, rfl, hb, hp⟩ := hrel
      have HP := Lib.hid hp
      clear hp
      by_cases hlt : k < n
      · obtain ⟨b, off, ⟨x1, x2, x3, x4, x5⟩, rfl, hbl, hx, hc0, hc1, hc2, hc3, hc4⟩ := HC.out k hlt
        obtain ⟨b', off', ⟨y1, y2, y3, y4, y5⟩, rfl, hbl', hx', hd0, hd1, hd2, hd3, hd4⟩ := HC'.out k hlt
        have HX := Lib.hid hx
        have HX' := Lib.hid hx'
        clear hx hx'
        dsimp only at hc0 hc1 hc2 hc3 hc4 hd0 hd1 hd2 hd3 hd4
        have hcw0 : wr.cell? ⟨b, off + k * 5, none⟩ = some (.int .i64 x1) := (hb.cell (p := ⟨b, off + k * 5, none⟩) hbl).trans hc0
        have hcw1 : wr.cell? ⟨b, off + k * 5 + 1, none⟩ = some (.int .i64 x2) := (hb.cell (p := ⟨b, off + k * 5 + 1, none⟩) hbl).trans hc1
        have hcw2 : wr.cell? ⟨b, off + k * 5 + 2, none⟩ = some (.int .i64 x3) := (hb.cell (p := ⟨b, off + k * 5 + 2, none⟩) hbl).trans hc2
        have hcw3 : wr.cell? ⟨b, off + k * 5 + 3, none⟩ = some (.int .i64 x4) := (hb.cell (p := ⟨b, off + k * 5 + 3, none⟩) hbl).trans hc3
        have hcw4 : wr.cell? ⟨b, off + k * 5 + 4, none⟩ = some (.int .i64 x5) := (hb.cell (p := ⟨b, off + k * 5 + 4, none⟩) hbl).trans hc4
        have hdw0 : wr.cell? ⟨b', off' + k * 5, none⟩ = some (.int .i64 y1) := (hb.cell (p := ⟨b', off' + k * 5, none⟩) hbl').trans hd0
        have hdw1 : wr.cell? ⟨b', off' + k * 5 + 1, none⟩ = some (.int .i64 y2) := (hb.cell (p := ⟨b', off' + k * 5 + 1, none⟩) hbl').trans hd1
        have hdw2 : wr.cell? ⟨b', off' + k * 5 + 2, none⟩ = some (.int .i64 y3) := (hb.cell (p := ⟨b', off' + k * 5 + 2, none⟩) hbl').trans hd2
        have hdw3 : wr.cell? ⟨b', off' + k * 5 + 3, none⟩ = some (.int .i64 y4) := (hb.cell (p := ⟨b', off' + k * 5 + 3, none⟩) hbl').trans hd3
        have hdw4 : wr.cell? ⟨b', off' + k * 5 + 4, none⟩ = some (.int .i64 y5) := (hb.cell (p := ⟨b', off' + k * 5 + 4, none⟩) hbl').trans hd4
        clear hc0 hc1 hc2 hc3 hc4 hd0 hd1 hd2 hd3 hd4
        have hbz := hb.size
        have hbw : b < wr.heap.size := by omega
        have hbw' : b' < wr.heap.size := by omega
        by_cases hxx : (((x1, x2, x3, x4, x5) : StepT) = (y1, y2, y3, y4, y5))
        · have HXX := Lib.hid hxx
          clear hxx
          go_wp2
          refine wp_region_wd (by kernel_rfl) (by kernel_rfl) ?_
          repeat (go_big_quiet_step ((first | (go_at_call 114; exact Calls.wd_of (eqStep_t HXX.out _)))))
          refine wpQuiet_nil ?_
          intro n1
          have hn1 := n1.h
          go_wp2
          go_roundw
          case rel => exact ⟨k + 1, by omega, by go_num, hb.step n1.h, by rw [take_succ_of HX.out, take_succ_of HX'.out, HP.out, HXX.out]⟩
          case measure => simp [intOf]; omega
        · have HXX := Lib.hid hxx
          clear hxx
          go_wp2
          refine wp_region_wd (by kernel_rfl) (by kernel_rfl) ?_
          repeat (go_big_quiet_step ((first | (go_at_call 114; exact Calls.wd_of (eqStep_f HXX.out _)))))
          refine wpQuiet_nil ?_
          intro n1
          have hn1 := n1.h
          go_wp2
          go_ret
          refine ⟨?_, hb.step n1.h⟩
          rw [show decide (l = l') = false from decide_eq_false fun e => HXX.out (Option.some.inj (by rw [← HX.out, ← HX'.out, e]))]
          try rfl
      · obtain rfl : k = n := by omega
        go_wp2
        go_ret
        have h1 := HP.out
        rw [List.take_of_length_le (by have := HL.out; omega), List.take_of_length_le (by have := HL'.out; omega)] at h1
        exact ⟨by simp [h1], hb⟩
  · have hne : (n != n') = true := by simpa using hnn
    have hne2 : ((n : Int) != (n' : Int)) = true := by simp; omega
    go_enter Tryz.func48, Tryz.ntmps48
    go_wp2
    go_ret
    refine ⟨?_, Below.refl _ _⟩
    rw [show decide (l = l') = false from decide_eq_false fun e => hnn (by rw [← HL.out, ← HL'.out, e])]
    try rfl

end Go.Proofs.YtfdhbbhfilkafaaGreat
