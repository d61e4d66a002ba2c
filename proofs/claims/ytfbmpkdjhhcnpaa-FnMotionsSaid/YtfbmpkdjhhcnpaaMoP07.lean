/- Slices of Place: reading, owning, and the law's helpers on them (written by structgen.py). No condition but sizes below 2^44. -/
import Derived.Test.YtfbmpkdjhhcnpaaMoP02
import Derived.Test.YtfbmpkdjhhcnpaaMoP01
import Derived.Laws.StructEq
namespace Go.Proofs.Ytfbmpkdjhhcnpaa
open Go.RowKit
set_option maxRecDepth 100000
set_option linter.unusedVariables false
set_option linter.unusedSimpArgs false

abbrev PlaceT := Int × Int
def cellsPlace (x : PlaceT) : List Value := [.int .i64 x.1, .int .i64 x.2]
def aggPlace (x : PlaceT) : Value := .agg #[.int .i64 x.1, .int .i64 x.2]
theorem cellsPlace_length (x : PlaceT) : (cellsPlace x).length = 2 := rfl

theorem infoPlace : (Try.prog.info? 54).map (fun i => (i.zero, i.size, i.bytes)) = some (some (.agg #[.int .i64 0, .int .i64 0]), 2, 16) := by kernel_rfl

/-- The slice value (a, n) reads as l. -/
def PlacesAt (W : World) (a : Option Addr) (n : Nat) (l : List PlaceT) : Prop :=
  l.length = n ∧ ∀ k, k < n → ∃ b off, ∃ x : PlaceT, a = some ⟨b, off, none⟩ ∧ b < W.heap.size ∧ l[k]? = some x ∧ W.cell? ⟨b, off + k * 2, none⟩ = some (.int .i64 x.1) ∧ W.cell? ⟨b, off + k * 2 + 1, none⟩ = some (.int .i64 x.2)
theorem PlacesAt.below {W W' : World} {a : Option Addr} {n : Nat} {l : List PlaceT} (h : PlacesAt W a n l) (hk : Below W.heap.size W W') : PlacesAt W' a n l :=
  ⟨h.1, fun k hkn => by
    obtain ⟨b, off, x, ha, hb, hx, c0, c1⟩ := h.2 k hkn
    exact ⟨b, off, x, ha, Nat.lt_of_lt_of_le hb hk.size, hx, (hk.cell (p := ⟨b, off + k * 2, none⟩) hb).trans c0, (hk.cell (p := ⟨b, off + k * 2 + 1, none⟩) hb).trans c1⟩⟩

def OwnPlaces (W : World) (base : Nat) (v : Value) (l : List PlaceT) : Prop := W.ownsRow base 54 2 v l.length (l.flatMap cellsPlace)
def IsPlaces (W : World) (v : Value) (l : List PlaceT) : Prop := ∃ a cap, v = .slice a l.length cap ∧ PlacesAt W a l.length l
theorem IsPlaces.below {W W' : World} {v : Value} {l : List PlaceT} (h : IsPlaces W v l) (hb : Below W.heap.size W W') : IsPlaces W' v l := by
  obtain ⟨a, cap, rfl, hi⟩ := h
  exact ⟨a, cap, rfl, hi.below hb⟩
theorem ownPlaces_cell {W : World} {base g n cap : Nat} {l : List PlaceT} (h : W.ownsRow base 54 2 (.slice (some ⟨g, 0, none⟩) n cap) n (l.flatMap cellsPlace)) {k : Nat} {x : PlaceT} (hx : l[k]? = some x) (hk : k < n) (j : Nat) (hj : j < 2) :
    W.cell? ⟨g, k * 2 + j, none⟩ = (cellsPlace x)[j]? := by
  rw [World.ownsRow.cellAt h (k * 2 + j) (by omega)]
  exact flat_get cellsPlace_length hx hj
theorem OwnPlaces.form {W : World} {base : Nat} {v : Value} {l : List PlaceT} (h : OwnPlaces W base v l) : IsPlaces W v l := by
  rcases h.2 with ⟨rfl, h0⟩ | ⟨g, cap, cur, rfl, hb, hg, hnc, hcm, hcs, htake⟩
  · exact ⟨none, 0, by rw [h0], rfl, fun k hk => by omega⟩
  · refine ⟨_, cap, rfl, rfl, fun k hk => ⟨g, 0, l[k], rfl, (Array.getElem?_eq_some_iff.1 hg).1, by simp [hk], ?_⟩⟩
    have H := fun j hj => ownPlaces_cell (W := W) (base := base) h (k := k) (x := l[k]) (by simp [hk]) hk j hj
    exact ⟨by have := H 0 (by omega); simpa [cellsPlace] using this, by have := H 1 (by omega); simpa [cellsPlace] using this⟩
theorem OwnPlaces.lt {W : World} {base : Nat} {v : Value} {l : List PlaceT} (h : OwnPlaces W base v l) : ∀ k, v.ownBlock = some k → base ≤ k ∧ k < W.heap.size := World.ownsRow.lt h
def RetPlaces (W : World) (l : List PlaceT) (e : Ending) (w' : World) : Prop := ∃ v, e = .returned v ∧ OwnPlaces w' W.heap.size v l ∧ Below W.heap.size W w'
def HPlaces (W : World) (lo hi : Nat) (v : Value) (l : List PlaceT) : Prop := OwnPlaces W lo v l ∧ ∀ k, v.ownBlock = some k → k < hi
theorem HPlaces.is {W : World} {lo hi : Nat} {v : Value} {l : List PlaceT} (h : HPlaces W lo hi v l) : IsPlaces W v l := h.1.form
theorem HPlaces.kept {W W' : World} {lo hi : Nat} {v : Value} {l : List PlaceT} {S : Nat → Prop} (h : HPlaces W lo hi v l) (hk : Kept S W W') (hd : ∀ k, lo ≤ k → k < hi → ¬ S k) : HPlaces W' lo hi v l :=
  ⟨hk.ownsRow h.1 fun k hkk => hd k (h.1.lt k hkk).1 (h.2 k hkk), h.2⟩
theorem HPlaces.below {W W' : World} {lo hi : Nat} {v : Value} {l : List PlaceT} (h : HPlaces W lo hi v l) (hb : Below W.heap.size W W') : HPlaces W' lo hi v l := h.kept (Kept.of_below (S := fun _ => False) hb) fun _ _ _ => id
theorem OwnPlaces.h {W : World} {lo : Nat} {v : Value} {l : List PlaceT} (h : OwnPlaces W lo v l) : HPlaces W lo W.heap.size v l := ⟨h, fun k hk => (h.lt k hk).2⟩

theorem below2aPlace {w : World} {o1 o2 : Obj} : Below w.heap.size w ((w.alloc o1).alloc o2) := ((Below.refl _ w).alloc (Nat.le_refl _) o1).alloc (by simp) o2
theorem guardPlace : Try.prog.eqGuardType Try.prog.depth 54 = false := by kernel_rfl
theorem neqPlace_run (w : World) (x1 x2 y1 y2 : Int) :
    (binOp .neq 54 (.agg #[.int .i64 x1, .int .i64 x2]) (.agg #[.int .i64 y1, .int .i64 y2])).run Try.prog w = .ok (.bool (!(decide (((x1, x2) : PlaceT) = (y1, y2))))) w := by
  have u3 := Try.underlying3
  have hS : Try.prog.underlying 54 = some (.struct (Try.prog.fieldsOf 54)) := by kernel_rfl
  have hp : Try.prog.stoodInHeld 54 = false := by kernel_rfl
  rw [run_neq_struct, show (10000 : Nat) = 9999 + 1 from rfl, run_equalIn_agg w 9999 54 _ _ hS hp]
  simp only [Program.fieldsOf, Try.underlying54]
  go_simp
  by_cases h0 : x1 = y1 <;> by_cases h1 : x2 = y2 <;> simp [h0, h1]
theorem eqlPlace_run (w : World) (x1 x2 y1 y2 : Int) :
    (binOp .eql 54 (.agg #[.int .i64 x1, .int .i64 x2]) (.agg #[.int .i64 y1, .int .i64 y2])).run Try.prog w = .ok (.bool (decide (((x1, x2) : PlaceT) = (y1, y2)))) w := by
  have u3 := Try.underlying3
  have hS : Try.prog.underlying 54 = some (.struct (Try.prog.fieldsOf 54)) := by kernel_rfl
  have hp : Try.prog.stoodInHeld 54 = false := by kernel_rfl
  rw [run_eql_struct, show (10000 : Nat) = 9999 + 1 from rfl, run_equalIn_agg w 9999 54 _ _ hS hp]
  simp only [Program.fieldsOf, Try.underlying54]
  go_simp
  by_cases h0 : x1 = y1 <;> by_cases h1 : x2 = y2 <;> simp [h0, h1]
theorem neqPlace_t {x1 x2 y1 y2 : Int} (h : ((x1, x2) : PlaceT) = (y1, y2)) (w : World) : (binOp .neq 54 (.agg #[.int .i64 x1, .int .i64 x2]) (.agg #[.int .i64 y1, .int .i64 y2])).run Try.prog w = .ok (.bool false) w := by rw [neqPlace_run, decide_eq_true h]; rfl
theorem neqPlace_f {x1 x2 y1 y2 : Int} (h : ¬ ((x1, x2) : PlaceT) = (y1, y2)) (w : World) : (binOp .neq 54 (.agg #[.int .i64 x1, .int .i64 x2]) (.agg #[.int .i64 y1, .int .i64 y2])).run Try.prog w = .ok (.bool true) w := by rw [neqPlace_run, decide_eq_false h]; rfl
theorem eqlPlace_t {x1 x2 y1 y2 : Int} (h : ((x1, x2) : PlaceT) = (y1, y2)) (w : World) : (binOp .eql 54 (.agg #[.int .i64 x1, .int .i64 x2]) (.agg #[.int .i64 y1, .int .i64 y2])).run Try.prog w = .ok (.bool true) w := by rw [eqlPlace_run, decide_eq_true h]
theorem eqlPlace_f {x1 x2 y1 y2 : Int} (h : ¬ ((x1, x2) : PlaceT) = (y1, y2)) (w : World) : (binOp .eql 54 (.agg #[.int .i64 x1, .int .i64 x2]) (.agg #[.int .i64 y1, .int .i64 y2])).run Try.prog w = .ok (.bool false) w := by rw [eqlPlace_run, decide_eq_false h]

theorem madeCells_Place (n : Nat) : (madeCells #[.int .i64 0, .int .i64 0] (n * 2)).toList = (List.replicate n ((0, 0) : PlaceT)).flatMap cellsPlace := by
  have h : (List.replicate n ((0, 0) : PlaceT)).flatMap cellsPlace = List.replicate (n * 2) (.int .i64 0) := by
    induction n with
    | zero => rfl
    | succ n ih => rw [List.replicate_succ, List.flatMap_cons, ih, Nat.succ_mul, Nat.add_comm, ← List.replicate_append_replicate]; rfl
  rw [h]
  apply List.ext_getElem?
  intro j
  by_cases hj : j < n * 2
  · have hm : j % 2 < 2 := Nat.mod_lt _ (by omega)
    generalize hq : j % 2 = q at hm
    have hq' : ∀ (z : Array Value), z.size = 2 → z[j % z.size]! = z[q]! := fun z hz => by rw [hz, hq]
    simp only [madeCells, Array.toList_map, List.getElem?_map, Array.toList_range, List.getElem?_range hj, Option.map_some, List.getElem?_replicate, if_pos hj]
    rw [hq' _ rfl]
    match q, hm with
    | 0, _ => rfl
    | 1, _ => rfl
  · rw [List.getElem?_eq_none (by simp [size_madeCells]; omega), List.getElem?_eq_none (by simp; omega)]

def OkPlaces (l : List PlaceT) : Prop := l.length ≤ 9223372036854775807 ∧ ∀ x ∈ l, (-9223372036854775808 ≤ x.1 ∧ x.1 ≤ 9223372036854775807) ∧ (-9223372036854775808 ≤ x.2 ∧ x.2 ≤ 9223372036854775807)
/-- the j-th of the marked elements -/
def markPlace (k : Int) (j : Nat) : PlaceT := (k + 2 * (j : Int), k + 2 * (j : Int) + 1)
def cntPlaces (l : List PlaceT) : Nat := 2 * l.length
theorem cntPlaces_le (l : List PlaceT) : cntPlaces l ≤ 2 * l.length := Nat.le_refl _
def mkdPlaces (k : Int) (l : List PlaceT) : List PlaceT := (List.range l.length).map (markPlace k)
theorem mkdPlaces_length (k : Int) (l : List PlaceT) : (mkdPlaces k l).length = l.length := by simp [mkdPlaces]
theorem mkdPlaces_get {k : Int} {l : List PlaceT} {j : Nat} (h : j < l.length) : (mkdPlaces k l)[j]? = some (markPlace k j) := by simp [mkdPlaces, h]
def mkToPlaces (k : Int) (l : List PlaceT) (j : Nat) : List PlaceT := (mkdPlaces k l).take j ++ l.drop j
theorem mkToPlaces_zero (k : Int) (l : List PlaceT) : mkToPlaces k l 0 = l := by simp [mkToPlaces]
theorem mkToPlaces_all (k : Int) (l : List PlaceT) : mkToPlaces k l l.length = mkdPlaces k l := by
  simp [mkToPlaces, List.take_of_length_le (Nat.le_of_eq (mkdPlaces_length k l))]
theorem mkToPlaces_length {k : Int} {l : List PlaceT} {j : Nat} (h : j ≤ l.length) : (mkToPlaces k l j).length = l.length := by simp [mkToPlaces, mkdPlaces_length]; omega
theorem mkToPlaces_succ {k : Int} {l : List PlaceT} {j : Nat} (hj : j < l.length) : (mkToPlaces k l j).set j (markPlace k j) = mkToPlaces k l (j + 1) := by
  unfold mkToPlaces
  rw [take_succ_of (mkdPlaces_get hj), List.set_append_right _ _ (by simp [mkdPlaces_length]; omega)]
  obtain ⟨x, s, h1, h2⟩ : ∃ x s, l.drop j = x :: s ∧ l.drop (j + 1) = s := ⟨_, _, List.drop_eq_getElem_cons hj, rfl⟩
  rw [h1, h2]
  simp [mkdPlaces_length, Nat.min_eq_left (Nat.le_of_lt hj)]

theorem setPlace_seg {W : World} {base g n cap : Nat} {l : List PlaceT} {j : Nat} (h : W.ownsRow base 54 2 (.slice (some ⟨g, 0, none⟩) n cap) n (l.flatMap cellsPlace)) (x : PlaceT) (hj : j < l.length) :
    (((W.setCell ⟨g, j * 2, none⟩ (.int .i64 x.1)).setCell ⟨g, j * 2 + 1, none⟩ (.int .i64 x.2))).ownsRow base 54 2 (.slice (some ⟨g, 0, none⟩) n cap) n ((l.set j x).flatMap cellsPlace) ∧ W.grownBy (((W.setCell ⟨g, j * 2, none⟩ (.int .i64 x.1)).setCell ⟨g, j * 2 + 1, none⟩ (.int .i64 x.2))) (some g) := by
  have s0 := World.ownsRow.stored h (j * 2) (.int .i64 x.1)
  have s1 := World.ownsRow.stored s0.1 (j * 2 + 1) (.int .i64 x.2)
  have hlen := flat_length cellsPlace_length l
  have hjl : j * 2 + 2 ≤ l.length * 2 := by rw [← Nat.succ_mul]; exact Nat.mul_le_mul_right _ hj
  have e0 : (l.flatMap cellsPlace) = (l.flatMap cellsPlace).take (j * 2) ++ [] ++ (l.flatMap cellsPlace).drop (j * 2 + 0) := by simp
  have e1 := seg_set (l.flatMap cellsPlace) (j * 2) [] (.int .i64 x.1) (by simp only [List.length_cons, List.length_nil, hlen]; omega)
  have e2 := seg_set (l.flatMap cellsPlace) (j * 2) [.int .i64 x.1] (.int .i64 x.2) (by simp only [List.length_cons, List.length_nil, hlen]; omega)
  refine ⟨?_, (s0.2.trans s1.2)⟩
  rw [← flat_set (c := cellsPlace) (a := x) cellsPlace_length hj]
  have e9 := s1.1
  rw [show (l.flatMap cellsPlace).set (j * 2) (.int .i64 x.1) = (l.flatMap cellsPlace).take (j * 2) ++ [.int .i64 x.1] ++ (l.flatMap cellsPlace).drop (j * 2 + 1) from by have h9 := e1; simp only [List.length_nil] at h9; rwa [← e0] at h9, show ((l.flatMap cellsPlace).take (j * 2) ++ [.int .i64 x.1] ++ (l.flatMap cellsPlace).drop (j * 2 + 1) : List Value).set (j * 2 + 1) (.int .i64 x.2) = (l.flatMap cellsPlace).take (j * 2) ++ [.int .i64 x.1, .int .i64 x.2] ++ (l.flatMap cellsPlace).drop (j * 2 + 2) from e2] at e9
  exact e9


end Go.Proofs.Ytfbmpkdjhhcnpaa

