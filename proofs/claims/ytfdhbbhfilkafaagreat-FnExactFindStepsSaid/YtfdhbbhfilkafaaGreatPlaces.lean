/- Slices of Place: reading, owning, and the law's helpers on them (written by structgen.py). No condition but sizes below 2^44. -/
import Derived.Test.YtfdhbbhfilkafaaGreatElem
import Derived.Test.YtfdhbbhfilkafaaGreatInts
import Derived.Laws.StructEq
namespace Go.Proofs.YtfdhbbhfilkafaaGreat
open Go.RowKit
set_option maxRecDepth 100000
set_option linter.unusedVariables false
set_option linter.unusedSimpArgs false

abbrev PlaceT := Int × Int
def cellsPlace (x : PlaceT) : List Value := [.int .i64 x.1, .int .i64 x.2]
def aggPlace (x : PlaceT) : Value := .agg #[.int .i64 x.1, .int .i64 x.2]
theorem cellsPlace_length (x : PlaceT) : (cellsPlace x).length = 2 := rfl

/-- The slice value (a, n) reads as l. -/
def PlacesAt (W : World) (a : Option Addr) (n : Nat) (l : List PlaceT) : Prop :=
  l.length = n ∧ ∀ k, k < n → ∃ b off, ∃ x : PlaceT, a = some ⟨b, off, none⟩ ∧ b < W.heap.size ∧ l[k]? = some x ∧ W.cell? ⟨b, off + k * 2, none⟩ = some (.int .i64 x.1) ∧ W.cell? ⟨b, off + k * 2 + 1, none⟩ = some (.int .i64 x.2)
theorem PlacesAt.below {W W' : World} {a : Option Addr} {n : Nat} {l : List PlaceT} (h : PlacesAt W a n l) (hk : Below W.heap.size W W') : PlacesAt W' a n l :=
  ⟨h.1, fun k hkn => by
    obtain ⟨b, off, x, ha, hb, hx, c0, c1⟩ := h.2 k hkn
    exact ⟨b, off, x, ha, Nat.lt_of_lt_of_le hb hk.size, hx, (hk.cell (p := ⟨b, off + k * 2, none⟩) hb).trans c0, (hk.cell (p := ⟨b, off + k * 2 + 1, none⟩) hb).trans c1⟩⟩

def IsPlaces (W : World) (v : Value) (l : List PlaceT) : Prop := ∃ a cap, v = .slice a l.length cap ∧ PlacesAt W a l.length l
theorem IsPlaces.below {W W' : World} {v : Value} {l : List PlaceT} (h : IsPlaces W v l) (hb : Below W.heap.size W W') : IsPlaces W' v l := by
  obtain ⟨a, cap, rfl, hi⟩ := h
  exact ⟨a, cap, rfl, hi.below hb⟩
theorem below2aPlace {w : World} {o1 o2 : Obj} : Below w.heap.size w ((w.alloc o1).alloc o2) := ((Below.refl _ w).alloc (Nat.le_refl _) o1).alloc (by simp) o2
theorem madeCells_Place (n : Nat) : (madeCells #[.int .i64 0, .int .i64 0] (n * 2)).toList = (List.replicate n ((0, 0) : PlaceT)).flatMap cellsPlace := by
  have h : (List.replicate n ((0, 0) : PlaceT)).flatMap cellsPlace = List.replicate (n * 2) (.int .i64 0) := by
    induction n with
    | zero => rfl
    | succ n ih => rw [List.replicate_succ, List.flatMap_cons, ih, Nat.succ_mul, Nat.add_comm, ← List.replicate_append_replicate]; rfl
  rw [h]
  apply List.ext_getElem?
  intro j
  by_cases hj : j < n * 2
  · have hm : j % 2 < 2 := Nat.mod_lt _ (by omega)
    generalize hq : j % 2 = q at hm
    have hq' : ∀ (z : Array Value), z.size = 2 → z[j % z.size]! = z[q]! := fun z hz => by rw [hz, hq]
    simp only [madeCells, Array.toList_map, List.getElem?_map, Array.toList_range, List.getElem?_range hj, Option.map_some, List.getElem?_replicate, if_pos hj]
    rw [hq' _ rfl]
    match q, hm with
    | 0, _ => rfl
    | 1, _ => rfl
  · rw [List.getElem?_eq_none (by simp [size_madeCells]; omega), List.getElem?_eq_none (by simp; omega)]

def OkPlaces (l : List PlaceT) : Prop := l.length ≤ 9223372036854775807 ∧ ∀ x ∈ l, (-9223372036854775808 ≤ x.1 ∧ x.1 ≤ 9223372036854775807) ∧ (-9223372036854775808 ≤ x.2 ∧ x.2 ≤ 9223372036854775807)
/-- the j-th of the marked elements -/
def markPlace (k : Int) (j : Nat) : PlaceT := (k + 2 * (j : Int), k + 2 * (j : Int) + 1)
def cntPlaces (l : List PlaceT) : Nat := 2 * l.length
theorem cntPlaces_le (l : List PlaceT) : cntPlaces l ≤ 2 * l.length := Nat.le_refl _
def mkdPlaces (k : Int) (l : List PlaceT) : List PlaceT := (List.range l.length).map (markPlace k)
theorem mkdPlaces_length (k : Int) (l : List PlaceT) : (mkdPlaces k l).length = l.length := by simp [mkdPlaces]
theorem mkdPlaces_get {k : Int} {l : List PlaceT} {j : Nat} (h : j < l.length) : (mkdPlaces k l)[j]? = some (markPlace k j) := by simp [mkdPlaces, h]
def mkToPlaces (k : Int) (l : List PlaceT) (j : Nat) : List PlaceT := (mkdPlaces k l).take j ++ l.drop j
theorem mkToPlaces_zero (k : Int) (l : List PlaceT) : mkToPlaces k l 0 = l := by simp [mkToPlaces]
theorem mkToPlaces_all (k : Int) (l : List PlaceT) : mkToPlaces k l l.length = mkdPlaces k l := by
  simp [mkToPlaces, List.take_of_length_le (Nat.le_of_eq (mkdPlaces_length k l))]
theorem mkToPlaces_length {k : Int} {l : List PlaceT} {j : Nat} (h : j ≤ l.length) : (mkToPlaces k l j).length = l.length := by simp [mkToPlaces, mkdPlaces_length]; omega
theorem mkToPlaces_succ {k : Int} {l : List PlaceT} {j : Nat} (hj : j < l.length) : (mkToPlaces k l j).set j (markPlace k j) = mkToPlaces k l (j + 1) := by
  unfold mkToPlaces
  rw [take_succ_of (mkdPlaces_get hj), List.set_append_right _ _ (by simp [mkdPlaces_length]; omega)]
  obtain ⟨x, s, h1, h2⟩ : ∃ x s, l.drop j = x :: s ∧ l.drop (j + 1) = s := ⟨_, _, List.drop_eq_getElem_cons hj, rfl⟩
  rw [h1, h2]
  simp [mkdPlaces_length, Nat.min_eq_left (Nat.le_of_lt hj)]

end Go.Proofs.YtfdhbbhfilkafaaGreat
