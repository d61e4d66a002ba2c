/- Slices of Bar: reading, owning, and the law's helpers on them (written by structgen.py). No condition but sizes below 2^44. -/
import Derived.Test.YtfbmpkdjhhcnpaaGreatSnP01
import Derived.Laws.StructEq
namespace Go.Proofs.YtfbmpkdjhhcnpaaGreat
open Go.RowKit
set_option maxRecDepth 100000
set_option linter.unusedVariables false
set_option linter.unusedSimpArgs false

abbrev BarT := Int × Int
def cellsBar (x : BarT) : List Value := [.int .i64 x.1, .int .i64 x.2]
theorem cellsBar_length (x : BarT) : (cellsBar x).length = 2 := rfl

theorem infoBar : (Tryz.prog.info? 70).map (fun i => (i.zero, i.size, i.bytes)) = some (some (.agg #[.int .i64 0, .int .i64 0]), 2, 16) := by kernel_rfl

def BarsAt (W : World) (a : Option Addr) (n : Nat) (l : List BarT) : Prop :=
 l.length = n ∧ ∀ k, k < n → ∃ b off, ∃ x : BarT, a = some ⟨b, off, none⟩ ∧ b < W.heap.size ∧ l[k]? = some x ∧ W.cell? ⟨b, off + k * 2, none⟩ = some (.int .i64 x.1) ∧ W.cell? ⟨b, off + k * 2 + 1, none⟩ = some (.int .i64 x.2)
theorem BarsAt.below {W W' : World} {a : Option Addr} {n : Nat} {l : List BarT} (h : BarsAt W a n l) (hk : Below W.heap.size W W') : BarsAt W' a n l :=
 ⟨h.1, fun k hkn => by
  obtain ⟨b, off, x, ha, hb, hx, c0, c1⟩ := h.2 k hkn
  exact ⟨b, off, x, ha, Nat.lt_of_lt_of_le hb hk.size, hx, (hk.cell (p := ⟨b, off + k * 2, none⟩) hb).trans c0, (hk.cell (p := ⟨b, off + k * 2 + 1, none⟩) hb).trans c1⟩⟩

def OwnBars (W : World) (base : Nat) (v : Value) (l : List BarT) : Prop := W.ownsRow base 70 2 v l.length (l.flatMap cellsBar)
def IsBars (W : World) (v : Value) (l : List BarT) : Prop := ∃ a cap, v = .slice a l.length cap ∧ BarsAt W a l.length l
theorem ownBars_cell {W : World} {base g n cap : Nat} {l : List BarT} (h : W.ownsRow base 70 2 (.slice (some ⟨g, 0, none⟩) n cap) n (l.flatMap cellsBar)) {k : Nat} {x : BarT} (hx : l[k]? = some x) (hk : k < n) (j : Nat) (hj : j < 2) :
  W.cell? ⟨g, k * 2 + j, none⟩ = (cellsBar x)[j]? := by
 rw [World.ownsRow.cellAt h (k * 2 + j) (by omega)]
 exact flat_get cellsBar_length hx hj
theorem OwnBars.form {W : World} {base : Nat} {v : Value} {l : List BarT} (h : OwnBars W base v l) : IsBars W v l := by
 rcases h.2 with ⟨rfl, h0⟩ | ⟨g, cap, cur, rfl, hb, hg, hnc, hcm, hcs, htake⟩
 ·exact ⟨none, 0, by rw [h0], rfl, fun k hk => by omega⟩
 ·refine ⟨_, cap, rfl, rfl, fun k hk => ⟨g, 0, l[k], rfl, (Array.getElem?_eq_some_iff.1 hg).1, by simp [hk], ?_⟩⟩
  have H := fun j hj => ownBars_cell (W := W) (base := base) h (k := k) (x := l[k]) (by simp [hk]) hk j hj
  exact ⟨by have := H 0 (by omega); simpa [cellsBar] using this, by have := H 1 (by omega); simpa [cellsBar] using this⟩
theorem OwnBars.lt {W : World} {base : Nat} {v : Value} {l : List BarT} (h : OwnBars W base v l) : ∀ k, v.ownBlock = some k → base ≤ k ∧ k < W.heap.size := World.ownsRow.lt h
def HBars (W : World) (lo hi : Nat) (v : Value) (l : List BarT) : Prop := OwnBars W lo v l ∧ ∀ k, v.ownBlock = some k → k < hi
theorem HBars.kept {W W' : World} {lo hi : Nat} {v : Value} {l : List BarT} {S : Nat → Prop} (h : HBars W lo hi v l) (hk : Kept S W W') (hd : ∀ k, lo ≤ k → k < hi → ¬ S k) : HBars W' lo hi v l :=
 ⟨hk.ownsRow h.1 fun k hkk => hd k (h.1.lt k hkk).1 (h.2 k hkk), h.2⟩
theorem OwnBars.h {W : World} {lo : Nat} {v : Value} {l : List BarT} (h : OwnBars W lo v l) : HBars W lo W.heap.size v l := ⟨h, fun k hk => (h.lt k hk).2⟩

theorem guardBar : Tryz.prog.eqGuardType Tryz.prog.depth 70 = false := by kernel_rfl
theorem neqBar_run (w : World) (x1 x2 y1 y2 : Int) :
  (binOp .neq 70 (.agg #[.int .i64 x1, .int .i64 x2]) (.agg #[.int .i64 y1, .int .i64 y2])).run Tryz.prog w = .ok (.bool (!(decide (((x1, x2) : BarT) = (y1, y2))))) w := by
 have u3 := Tryz.underlying3
 have hS : Tryz.prog.underlying 70 = some (.struct (Tryz.prog.fieldsOf 70)) := by kernel_rfl
 have hp : Tryz.prog.stoodInHeld 70 = false := by kernel_rfl
 rw [run_neq_struct, show (10000 : Nat) = 9999 + 1 from rfl, run_equalIn_agg w 9999 70 _ _ hS hp]
 simp only [Program.fieldsOf, Tryz.underlying70]
 go_simp
 by_cases h0 : x1 = y1 <;> by_cases h1 : x2 = y2 <;> simp [h0, h1]
theorem eqlBar_run (w : World) (x1 x2 y1 y2 : Int) :
  (binOp .eql 70 (.agg #[.int .i64 x1, .int .i64 x2]) (.agg #[.int .i64 y1, .int .i64 y2])).run Tryz.prog w = .ok (.bool (decide (((x1, x2) : BarT) = (y1, y2)))) w := by
 have u3 := Tryz.underlying3
 have hS : Tryz.prog.underlying 70 = some (.struct (Tryz.prog.fieldsOf 70)) := by kernel_rfl
 have hp : Tryz.prog.stoodInHeld 70 = false := by kernel_rfl
 rw [run_eql_struct, show (10000 : Nat) = 9999 + 1 from rfl, run_equalIn_agg w 9999 70 _ _ hS hp]
 simp only [Program.fieldsOf, Tryz.underlying70]
 go_simp
 by_cases h0 : x1 = y1 <;> by_cases h1 : x2 = y2 <;> simp [h0, h1]
theorem neqBar_t {x1 x2 y1 y2 : Int} (h : ((x1, x2) : BarT) = (y1, y2)) (w : World) : (binOp .neq 70 (.agg #[.int .i64 x1, .int .i64 x2]) (.agg #[.int .i64 y1, .int .i64 y2])).run Tryz.prog w = .ok (.bool false) w := by rw [neqBar_run, decide_eq_true h]; rfl
theorem neqBar_f {x1 x2 y1 y2 : Int} (h : ¬ ((x1, x2) : BarT) = (y1, y2)) (w : World) : (binOp .neq 70 (.agg #[.int .i64 x1, .int .i64 x2]) (.agg #[.int .i64 y1, .int .i64 y2])).run Tryz.prog w = .ok (.bool true) w := by rw [neqBar_run, decide_eq_false h]; rfl
theorem eqlBar_t {x1 x2 y1 y2 : Int} (h : ((x1, x2) : BarT) = (y1, y2)) (w : World) : (binOp .eql 70 (.agg #[.int .i64 x1, .int .i64 x2]) (.agg #[.int .i64 y1, .int .i64 y2])).run Tryz.prog w = .ok (.bool true) w := by rw [eqlBar_run, decide_eq_true h]
theorem eqlBar_f {x1 x2 y1 y2 : Int} (h : ¬ ((x1, x2) : BarT) = (y1, y2)) (w : World) : (binOp .eql 70 (.agg #[.int .i64 x1, .int .i64 x2]) (.agg #[.int .i64 y1, .int .i64 y2])).run Tryz.prog w = .ok (.bool false) w := by rw [eqlBar_run, decide_eq_false h]

end Go.Proofs.YtfbmpkdjhhcnpaaGreat

