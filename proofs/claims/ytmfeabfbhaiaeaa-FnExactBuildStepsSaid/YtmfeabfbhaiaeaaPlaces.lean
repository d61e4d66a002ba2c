/- Slices of Place: reading, owning, and the law's helpers on them (written by structgen.py). No condition but sizes below 2^44. -/
import Derived.Test.YtmfeabfbhaiaeaaElem
import Derived.Test.YtmfeabfbhaiaeaaInts
import Derived.Laws.StructEq
namespace Go.Proofs.Ytmfeabfbhaiaeaa
open Go.RowKit
set_option maxRecDepth 100000
set_option linter.unusedVariables false
set_option linter.unusedSimpArgs false

abbrev PlaceT := Int × Int
def cellsPlace (x : PlaceT) : List Value := [.int .i64 x.1, .int .i64 x.2]
def aggPlace (x : PlaceT) : Value := .agg #[.int .i64 x.1, .int .i64 x.2]
theorem cellsPlace_length (x : PlaceT) : (cellsPlace x).length = 2 := rfl

theorem infoPlace : (Try.prog.info? 99).map (fun i => (i.zero, i.size, i.bytes)) = some (some (.agg #[.int .i64 0, .int .i64 0]), 2, 16) := by kernel_rfl

/-- The slice value (a, n) reads as l. -/
def PlacesAt (W : World) (a : Option Addr) (n : Nat) (l : List PlaceT) : Prop :=
  l.length = n ∧ ∀ k, k < n → ∃ b off, ∃ x : PlaceT, a = some ⟨b, off, none⟩ ∧ b < W.heap.size ∧ l[k]? = some x ∧ W.cell? ⟨b, off + k * 2, none⟩ = some (.int .i64 x.1) ∧ W.cell? ⟨b, off + k * 2 + 1, none⟩ = some (.int .i64 x.2)
theorem PlacesAt.below {W W' : World} {a : Option Addr} {n : Nat} {l : List PlaceT} (h : PlacesAt W a n l) (hk : Below W.heap.size W W') : PlacesAt W' a n l :=
  ⟨h.1, fun k hkn => by
    obtain ⟨b, off, x, ha, hb, hx, c0, c1⟩ := h.2 k hkn
    exact ⟨b, off, x, ha, Nat.lt_of_lt_of_le hb hk.size, hx, (hk.cell (p := ⟨b, off + k * 2, none⟩) hb).trans c0, (hk.cell (p := ⟨b, off + k * 2 + 1, none⟩) hb).trans c1⟩⟩

def OwnPlaces (W : World) (base : Nat) (v : Value) (l : List PlaceT) : Prop := W.ownsRow base 99 2 v l.length (l.flatMap cellsPlace)
def IsPlaces (W : World) (v : Value) (l : List PlaceT) : Prop := ∃ a cap, v = .slice a l.length cap ∧ PlacesAt W a l.length l
theorem IsPlaces.below {W W' : World} {v : Value} {l : List PlaceT} (h : IsPlaces W v l) (hb : Below W.heap.size W W') : IsPlaces W' v l := by
  obtain ⟨a, cap, rfl, hi⟩ := h
  exact ⟨a, cap, rfl, hi.below hb⟩
theorem ownPlaces_cell {W : World} {base g n cap : Nat} {l : List PlaceT} (h : W.ownsRow base 99 2 (.slice (some ⟨g, 0, none⟩) n cap) n (l.flatMap cellsPlace)) {k : Nat} {x : PlaceT} (hx : l[k]? = some x) (hk : k < n) (j : Nat) (hj : j < 2) :
    W.cell? ⟨g, k * 2 + j, none⟩ = (cellsPlace x)[j]? := by
  rw [World.ownsRow.cellAt h (k * 2 + j) (by omega)]
  exact flat_get cellsPlace_length hx hj
theorem OwnPlaces.form {W : World} {base : Nat} {v : Value} {l : List PlaceT} (h : OwnPlaces W base v l) : IsPlaces W v l := by
  rcases h.2 with ⟨rfl, h0⟩ | ⟨g, cap, cur, rfl, hb, hg, hnc, hcm, hcs, htake⟩
  · exact ⟨none, 0, by rw [h0], rfl, fun k hk => by omega⟩
  · refine ⟨_, cap, rfl, rfl, fun k hk => ⟨g, 0, l[k], rfl, (Array.getElem?_eq_some_iff.1 hg).1, by simp [hk], ?_⟩⟩
    have H := fun j hj => ownPlaces_cell (W := W) (base := base) h (k := k) (x := l[k]) (by simp [hk]) hk j hj
    exact ⟨by have := H 0 (by omega); simpa [cellsPlace] using this, by have := H 1 (by omega); simpa [cellsPlace] using this⟩
theorem OwnPlaces.lt {W : World} {base : Nat} {v : Value} {l : List PlaceT} (h : OwnPlaces W base v l) : ∀ k, v.ownBlock = some k → base ≤ k ∧ k < W.heap.size := World.ownsRow.lt h
def RetPlaces (W : World) (l : List PlaceT) (e : Ending) (w' : World) : Prop := ∃ v, e = .returned v ∧ OwnPlaces w' W.heap.size v l ∧ Below W.heap.size W w'
def HPlaces (W : World) (lo hi : Nat) (v : Value) (l : List PlaceT) : Prop := OwnPlaces W lo v l ∧ ∀ k, v.ownBlock = some k → k < hi
theorem HPlaces.is {W : World} {lo hi : Nat} {v : Value} {l : List PlaceT} (h : HPlaces W lo hi v l) : IsPlaces W v l := h.1.form
theorem HPlaces.kept {W W' : World} {lo hi : Nat} {v : Value} {l : List PlaceT} {S : Nat → Prop} (h : HPlaces W lo hi v l) (hk : Kept S W W') (hd : ∀ k, lo ≤ k → k < hi → ¬ S k) : HPlaces W' lo hi v l :=
  ⟨hk.ownsRow h.1 fun k hkk => hd k (h.1.lt k hkk).1 (h.2 k hkk), h.2⟩
theorem HPlaces.below {W W' : World} {lo hi : Nat} {v : Value} {l : List PlaceT} (h : HPlaces W lo hi v l) (hb : Below W.heap.size W W') : HPlaces W' lo hi v l := h.kept (Kept.of_below (S := fun _ => False) hb) fun _ _ _ => id
theorem OwnPlaces.h {W : World} {lo : Nat} {v : Value} {l : List PlaceT} (h : OwnPlaces W lo v l) : HPlaces W lo W.heap.size v l := ⟨h, fun k hk => (h.lt k hk).2⟩

set_option maxHeartbeats 1000000 in
theorem toPlace_any (x1 x2 : Int) (w : World) :
    Calls Try.prog 81 #[.agg #[.int .i64 x1, .int .i64 x2]] w fun e w' => e = .returned (.agg #[.int .i64 x1, .int .i64 x2]) ∧ Below w.heap.size w w' := by
  go_enter Try.func81, Try.ntmps81
  go_wp2
  refine bodyPost_ret (v := .agg #[.int .i64 x1, .int .i64 x2]) (by simp [results, Try.results81, go_sem]) rfl ⟨rfl, ?_⟩
  repeat (first | exact Below.refl _ _ | refine Below.setCell ?_ (by simp) _ | refine Below.alloc ?_ (by simp <;> omega) _)

theorem below2aPlace {w : World} {o1 o2 : Obj} : Below w.heap.size w ((w.alloc o1).alloc o2) := ((Below.refl _ w).alloc (Nat.le_refl _) o1).alloc (by simp) o2
set_option maxHeartbeats 2000000 in
theorem eqPlace_any (x1 x2 y1 y2 : Int) (w : World) :
    Calls Try.prog 86 #[.agg #[.int .i64 x1, .int .i64 x2], .agg #[.int .i64 y1, .int .i64 y2]] w fun e w' => e = .returned (.bool (decide (((x1, x2) : PlaceT) = (y1, y2)))) ∧ Below w.heap.size w w' := by
  by_cases h0 : x1 = y1
  · subst h0
    by_cases h1 : x2 = y2
    · subst h1
      go_enter Try.func86, Try.ntmps86
      go_wp2
      go_ret
      exact ⟨by simp, below2aPlace⟩
    · have hne : (x2 != y2) = true := by simpa using h1
      go_enter Try.func86, Try.ntmps86
      go_wp2
      go_ret
      exact ⟨by simp [h1], below2aPlace⟩
  · have hne : (x1 != y1) = true := by simpa using h0
    go_enter Try.func86, Try.ntmps86
    go_wp2
    go_ret
    exact ⟨by simp [h0], below2aPlace⟩

theorem guardPlace : Try.prog.eqGuardType Try.prog.depth 99 = false := by kernel_rfl
theorem neqPlace_run (w : World) (x1 x2 y1 y2 : Int) :
    (binOp .neq 99 (.agg #[.int .i64 x1, .int .i64 x2]) (.agg #[.int .i64 y1, .int .i64 y2])).run Try.prog w = .ok (.bool (!(decide (((x1, x2) : PlaceT) = (y1, y2))))) w := by
  have u3 := Try.underlying3
  have hS : Try.prog.underlying 99 = some (.struct (Try.prog.fieldsOf 99)) := by kernel_rfl
  have hp : Try.prog.stoodInHeld 99 = false := by kernel_rfl
  rw [run_neq_struct, show (10000 : Nat) = 9999 + 1 from rfl, run_equalIn_agg w 9999 99 _ _ hS hp]
  simp only [Program.fieldsOf, Try.underlying99]
  go_simp
  by_cases h0 : x1 = y1 <;> by_cases h1 : x2 = y2 <;> simp [h0, h1]
theorem eqlPlace_run (w : World) (x1 x2 y1 y2 : Int) :
    (binOp .eql 99 (.agg #[.int .i64 x1, .int .i64 x2]) (.agg #[.int .i64 y1, .int .i64 y2])).run Try.prog w = .ok (.bool (decide (((x1, x2) : PlaceT) = (y1, y2)))) w := by
  have u3 := Try.underlying3
  have hS : Try.prog.underlying 99 = some (.struct (Try.prog.fieldsOf 99)) := by kernel_rfl
  have hp : Try.prog.stoodInHeld 99 = false := by kernel_rfl
  rw [run_eql_struct, show (10000 : Nat) = 9999 + 1 from rfl, run_equalIn_agg w 9999 99 _ _ hS hp]
  simp only [Program.fieldsOf, Try.underlying99]
  go_simp
  by_cases h0 : x1 = y1 <;> by_cases h1 : x2 = y2 <;> simp [h0, h1]
theorem neqPlace_t {x1 x2 y1 y2 : Int} (h : ((x1, x2) : PlaceT) = (y1, y2)) (w : World) : (binOp .neq 99 (.agg #[.int .i64 x1, .int .i64 x2]) (.agg #[.int .i64 y1, .int .i64 y2])).run Try.prog w = .ok (.bool false) w := by rw [neqPlace_run, decide_eq_true h]; rfl
theorem neqPlace_f {x1 x2 y1 y2 : Int} (h : ¬ ((x1, x2) : PlaceT) = (y1, y2)) (w : World) : (binOp .neq 99 (.agg #[.int .i64 x1, .int .i64 x2]) (.agg #[.int .i64 y1, .int .i64 y2])).run Try.prog w = .ok (.bool true) w := by rw [neqPlace_run, decide_eq_false h]; rfl
theorem eqlPlace_t {x1 x2 y1 y2 : Int} (h : ((x1, x2) : PlaceT) = (y1, y2)) (w : World) : (binOp .eql 99 (.agg #[.int .i64 x1, .int .i64 x2]) (.agg #[.int .i64 y1, .int .i64 y2])).run Try.prog w = .ok (.bool true) w := by rw [eqlPlace_run, decide_eq_true h]
theorem eqlPlace_f {x1 x2 y1 y2 : Int} (h : ¬ ((x1, x2) : PlaceT) = (y1, y2)) (w : World) : (binOp .eql 99 (.agg #[.int .i64 x1, .int .i64 x2]) (.agg #[.int .i64 y1, .int .i64 y2])).run Try.prog w = .ok (.bool false) w := by rw [eqlPlace_run, decide_eq_false h]

theorem eqPlace_t {x1 x2 y1 y2 : Int} (h : ((x1, x2) : PlaceT) = (y1, y2)) (w : World) : Calls Try.prog 86 #[.agg #[.int .i64 x1, .int .i64 x2], .agg #[.int .i64 y1, .int .i64 y2]] w fun e w' => e = .returned (.bool true) ∧ Below w.heap.size w w' :=
  (eqPlace_any x1 x2 y1 y2 w).mono fun _ _ ⟨he, hb⟩ => ⟨by rw [he, decide_eq_true h], hb⟩
theorem eqPlace_f {x1 x2 y1 y2 : Int} (h : ¬ ((x1, x2) : PlaceT) = (y1, y2)) (w : World) : Calls Try.prog 86 #[.agg #[.int .i64 x1, .int .i64 x2], .agg #[.int .i64 y1, .int .i64 y2]] w fun e w' => e = .returned (.bool false) ∧ Below w.heap.size w w' :=
  (eqPlace_any x1 x2 y1 y2 w).mono fun _ _ ⟨he, hb⟩ => ⟨by rw [he, decide_eq_false h], hb⟩

theorem madeCells_Place (n : Nat) : (madeCells #[.int .i64 0, .int .i64 0] (n * 2)).toList = (List.replicate n ((0, 0) : PlaceT)).flatMap cellsPlace := by
  have h : (List.replicate n ((0, 0) : PlaceT)).flatMap cellsPlace = List.replicate (n * 2) (.int .i64 0) := by
    induction n with
    | zero => rfl
    | succ n ih => rw [List.replicate_succ, List.flatMap_cons, ih, Nat.succ_mul, Nat.add_comm, ← List.replicate_append_replicate]; rfl
  rw [h]
  apply List.ext_getElem?
  intro j
  by_cases hj : j < n * 2
  · have hm : j % 2 < 2 := Nat.mod_lt _ (by omega)
    generalize hq : j % 2 = q at hm
    have hq' : ∀ (z : Array Value), z.size = 2 → z[j % z.size]! = z[q]! := fun z hz => by rw [hz, hq]
    simp only [madeCells, Array.toList_map, List.getElem?_map, Array.toList_range, List.getElem?_range hj, Option.map_some, List.getElem?_replicate, if_pos hj]
    rw [hq' _ rfl]
    match q, hm with
    | 0, _ => rfl
    | 1, _ => rfl
  · rw [List.getElem?_eq_none (by simp [size_madeCells]; omega), List.getElem?_eq_none (by simp; omega)]

set_option maxHeartbeats 2000000 in
theorem toPlaces_any (a : Option Addr) (n cap : Nat) (l : List PlaceT) (W : World) (h : PlacesAt W a n l) (hn : n ≤ 1099511627776) :
    Calls Try.prog 38 #[.slice a n cap] W (RetPlaces W l) := by
  obtain ⟨i0, hi, hz0, hz1, hz2⟩ := info_parts infoPlace
  obtain ⟨hl, hc⟩ := h
  have HL := Lib.hid hl
  have HC := Lib.hid hc
  clear hl hc
  go_enter Try.func38, Try.ntmps38
  go_wp2_with (at_make; refine wpList_make_full _ rfl _ _ _ rfl W.heap.size 99 i0 (.agg #[.int .i64 0, .int .i64 0]) 2 Try.underlying33 hi hz0 hz1 .i64 .i64 _ _ n rfl rfl rfl rfl (by rw [hz2]; omega) (by unfold maxLen; omega) (Nat.le_refl _) ?_; intro w1 hown hgrow)
  have hb0 : Below W.heap.size W w1 := Below.of_grown_none hgrow
  have hs0 : W.heap.size < w1.heap.size := (World.ownsRow.lt hown _ rfl).2
  go_loopw [4] (fun i wr => ∃ k : Nat, k ≤ n ∧ i = .int .i64 k ∧ wr.ownsRow W.heap.size 99 2 (.slice (some ⟨W.heap.size, 0, none⟩) n n) n ((l.take k ++ List.replicate (n - k) ((0, 0) : PlaceT)).flatMap cellsPlace) ∧ Below W.heap.size W wr ∧ W.heap.size < wr.heap.size) (fun i _ => n - (intOf i).toNat)
  case atStart =>
    refine ⟨0, Nat.zero_le _, rfl, ?_, hb0, hs0⟩
    have h2 := hown
    simp only [Value.cells] at h2
    rw [madeCells_Place] at h2
    simpa using h2
  case round =>
    clear hown hgrow hb0
    obtain ⟨k, hk, rfl, ho, hb, hsz⟩ := hrel
    by_cases hlt : k < n
    · obtain ⟨b, off, ⟨x1, x2⟩, rfl, hbl, hx, hc0, hc1⟩ := HC.out k hlt
      have HX := Lib.hid hx
      clear hx
      dsimp only at hc0 hc1
      have hcw0 : wr.cell? ⟨b, off + k * 2, none⟩ = some (.int .i64 x1) := (hb.cell (p := ⟨b, off + k * 2, none⟩) hbl).trans hc0
      have hcw1 : wr.cell? ⟨b, off + k * 2 + 1, none⟩ = some (.int .i64 x2) := (hb.cell (p := ⟨b, off + k * 2 + 1, none⟩) hbl).trans hc1
      clear hc0 hc1
      have HO := Lib.hid ho
      clear ho
      have hkk : (k : Int) < (n : Int) := by omega
      go_wp2_with fail
      refine (toPlace_any _ _ _).mono ?_
      rintro e w2 ⟨rfl, b2⟩
      have HO2 := Lib.hid (Below.ownsRow b2 HO.out)
      have hsz2 := b2.size
      have hb2 := hb.trans (b2.mono hb.size)
      clear HO b2
      go_wp2_with (refine wpList_store_elem _ rfl rfl 99 _ _ rfl 99 i0 2 hi hz1 W.heap.size W.heap.size n n _ HO2.out k _ hlt rfl rfl _ rfl [.int .i64 x1, .int .i64 x2] rfl rfl (by intro u hu; simp at hu; rcases hu with rfl | rfl <;> rfl) ?_; intro w3 ho3 hg3)
      go_roundw
      case rel =>
        refine ⟨k + 1, by omega, by go_num, ?_, hb2.grown hg3 (by omega) (by intro q hq; cases hq; exact Nat.le_refl _), Nat.lt_of_lt_of_le (by omega) hg3.size⟩
        have h4 := flat_set (c := cellsPlace) cellsPlace_length (l := l.take k ++ List.replicate (n - k) ((0, 0) : PlaceT)) (k := k) (a := (x1, x2)) (by have := HL.out; simp; omega)
        rw [take_rep_set_any HL.out HX.out] at h4
        rw [← h4]
        exact ho3
      case measure => simp [intOf]; omega
    · obtain rfl : k = n := by omega
      go_wp2
      go_ret
      refine ⟨_, rfl, ?_, hb⟩
      have h2 := ho
      have h3 := HL.out
      simp only [Nat.sub_self, List.replicate_zero, List.append_nil] at h2
      rw [List.take_of_length_le (by omega)] at h2
      unfold OwnPlaces
      rw [h3]
      exact h2

set_option maxHeartbeats 2000000 in
theorem eqPlaces_any (a a' : Option Addr) (n cap n' cap' : Nat) (l l' : List PlaceT) (W : World) (h : PlacesAt W a n l) (h' : PlacesAt W a' n' l') (hn : n ≤ 1099511627776) :
    Calls Try.prog 42 #[.slice a n cap, .slice a' n' cap'] W fun e w' => e = .returned (.bool (decide (l = l'))) ∧ Below W.heap.size W w' := by
  have hwd := @Wd.cells
  obtain ⟨hl, hc⟩ := h
  obtain ⟨hl', hc'⟩ := h'
  have HL := Lib.hid hl
  have HL' := Lib.hid hl'
  have HC := Lib.hid hc
  have HC' := Lib.hid hc'
  clear hl hc hl' hc'
  by_cases hnn : n = n'
  · subst hnn
    go_enter Try.func42, Try.ntmps42
    go_wp2
    go_loopw [5] (fun i wr => ∃ k : Nat, k ≤ n ∧ i = .int .i64 k ∧ Below W.heap.size W wr ∧ l.take k = l'.take k) (fun i _ => n - (intOf i).toNat)
    case atStart => exact ⟨0, Nat.zero_le _, rfl, Below.refl _ _, rfl⟩
    case round =>
      obtain ⟨k, hk, rfl, hb, hp⟩ := hrel
      have HP := Lib.hid hp
      clear hp
      by_cases hlt : k < n
      · obtain ⟨b, off, ⟨x1, x2⟩, rfl, hbl, hx, hc0, hc1⟩ := HC.out k hlt
        obtain ⟨b', off', ⟨y1, y2⟩, rfl, hbl', hx', hd0, hd1⟩ := HC'.out k hlt
        have HX := Lib.hid hx
        have HX' := Lib.hid hx'
        clear hx hx'
        dsimp only at hc0 hc1 hd0 hd1
        have hcw0 : wr.cell? ⟨b, off + k * 2, none⟩ = some (.int .i64 x1) := (hb.cell (p := ⟨b, off + k * 2, none⟩) hbl).trans hc0
        have hcw1 : wr.cell? ⟨b, off + k * 2 + 1, none⟩ = some (.int .i64 x2) := (hb.cell (p := ⟨b, off + k * 2 + 1, none⟩) hbl).trans hc1
        have hdw0 : wr.cell? ⟨b', off' + k * 2, none⟩ = some (.int .i64 y1) := (hb.cell (p := ⟨b', off' + k * 2, none⟩) hbl').trans hd0
        have hdw1 : wr.cell? ⟨b', off' + k * 2 + 1, none⟩ = some (.int .i64 y2) := (hb.cell (p := ⟨b', off' + k * 2 + 1, none⟩) hbl').trans hd1
        clear hc0 hc1 hd0 hd1
        have hbz := hb.size
        have hbw : b < wr.heap.size := by omega
        have hbw' : b' < wr.heap.size := by omega
        by_cases hxx : (((x1, x2) : PlaceT) = (y1, y2))
        · have HXX := Lib.hid hxx
          clear hxx
          go_wp2
          refine wp_region_wd (by kernel_rfl) (by kernel_rfl) ?_
          repeat (go_big_quiet_step ((first | (go_at_call 86; exact Calls.wd_of (eqPlace_t HXX.out _)))))
          refine wpQuiet_nil ?_
          intro n1
          have hn1 := n1.h
          go_wp2
          go_roundw
          case rel => exact ⟨k + 1, by omega, by go_num, hb.step n1.h, by rw [take_succ_of HX.out, take_succ_of HX'.out, HP.out, HXX.out]⟩
          case measure => simp [intOf]; omega
        · have HXX := Lib.hid hxx
          clear hxx
          go_wp2
          refine wp_region_wd (by kernel_rfl) (by kernel_rfl) ?_
          repeat (go_big_quiet_step ((first | (go_at_call 86; exact Calls.wd_of (eqPlace_f HXX.out _)))))
          refine wpQuiet_nil ?_
          intro n1
          have hn1 := n1.h
          go_wp2
          go_ret
          refine ⟨?_, hb.step n1.h⟩
          rw [show decide (l = l') = false from decide_eq_false fun e => HXX.out (Option.some.inj (by rw [← HX.out, ← HX'.out, e]))]
          try rfl
      · obtain rfl : k = n := by omega
        go_wp2
        go_ret
        have h1 := HP.out
        rw [List.take_of_length_le (by have := HL.out; omega), List.take_of_length_le (by have := HL'.out; omega)] at h1
        exact ⟨by simp [h1], hb⟩
  · have hne : (n != n') = true := by simpa using hnn
    have hne2 : ((n : Int) != (n' : Int)) = true := by simp; omega
    go_enter Try.func42, Try.ntmps42
    go_wp2
    go_ret
    refine ⟨?_, Below.refl _ _⟩
    rw [show decide (l = l') = false from decide_eq_false fun e => hnn (by rw [← HL.out, ← HL'.out, e])]
    try rfl

set_option maxHeartbeats 1000000 in
theorem szPlaces_any (a : Option Addr) (n cap : Nat) (k : Int) (W : World) (hn : n ≤ 9223372036854775807) (hk0 : 0 ≤ k) (hk : k ≤ 1048576) :
    Calls Try.prog 34 #[.slice a n cap, .int .i64 k] W fun e w' => e = .returned (.int .i64 (szRes k n)) ∧ W = w' := by
  by_cases h : k < n
  · have HE := Lib.hid (szRes_pos h)
    go_enter Try.func34, Try.ntmps34
    go_wp2
    go_ret
    refine ⟨?_, rfl⟩
    rw [HE.out]
    try rfl
  · have HE := Lib.hid (szRes_neg h)
    go_enter Try.func34, Try.ntmps34
    go_wp2
    go_ret
    refine ⟨?_, rfl⟩
    rw [HE.out]
    try rfl

theorem toPlaces_h (W : World) (v : Value) (l : List PlaceT) (h : IsPlaces W v l) (hn : l.length ≤ 1048576) : Calls Try.prog 38 #[v] W (RetPlaces W l) := by
  obtain ⟨a, cap, rfl, hi⟩ := h
  exact toPlaces_any _ _ _ _ _ hi (by omega)
theorem eqPlaces_h (W : World) (v v' : Value) (l : List PlaceT) (h : IsPlaces W v l) (h' : IsPlaces W v' l) (hn : l.length ≤ 1099511627776) :
    Calls Try.prog 42 #[v, v'] W fun e w' => e = .returned (.bool true) ∧ Below W.heap.size W w' := by
  obtain ⟨a, cap, rfl, i⟩ := h
  obtain ⟨a', cap', rfl, i'⟩ := h'
  exact (eqPlaces_any _ _ _ _ _ _ _ _ _ i i' hn).mono fun _ _ ⟨he, hb⟩ => ⟨by rw [he]; simp, hb⟩
def OkPlaces (l : List PlaceT) : Prop := l.length ≤ 9223372036854775807 ∧ ∀ x ∈ l, (-9223372036854775808 ≤ x.1 ∧ x.1 ≤ 9223372036854775807) ∧ (-9223372036854775808 ≤ x.2 ∧ x.2 ≤ 9223372036854775807)
theorem szPlaces_h (W : World) (v : Value) (l : List PlaceT) (k : Int) (h : IsPlaces W v l) (hn : OkPlaces l) (hk0 : 0 ≤ k) (hk : k ≤ 1048576) :
    Calls Try.prog 34 #[v, .int .i64 k] W fun e w' => e = .returned (.int .i64 (szRes k l.length)) ∧ Below W.heap.size W w' := by
  obtain ⟨a, cap, rfl, i⟩ := h
  exact (szPlaces_any _ _ _ _ _ hn.1 hk0 hk).mono fun _ _ ⟨he, hw⟩ => ⟨he, by rw [← hw]; exact Below.refl _ _⟩

/-- the j-th of the marked elements -/
def markPlace (k : Int) (j : Nat) : PlaceT := (k + 2 * (j : Int), k + 2 * (j : Int) + 1)
def cntPlaces (l : List PlaceT) : Nat := 2 * l.length
theorem cntPlaces_le (l : List PlaceT) : cntPlaces l ≤ 2 * l.length := Nat.le_refl _
def mkdPlaces (k : Int) (l : List PlaceT) : List PlaceT := (List.range l.length).map (markPlace k)
theorem mkdPlaces_length (k : Int) (l : List PlaceT) : (mkdPlaces k l).length = l.length := by simp [mkdPlaces]
theorem mkdPlaces_get {k : Int} {l : List PlaceT} {j : Nat} (h : j < l.length) : (mkdPlaces k l)[j]? = some (markPlace k j) := by simp [mkdPlaces, h]
def mkToPlaces (k : Int) (l : List PlaceT) (j : Nat) : List PlaceT := (mkdPlaces k l).take j ++ l.drop j
theorem mkToPlaces_zero (k : Int) (l : List PlaceT) : mkToPlaces k l 0 = l := by simp [mkToPlaces]
theorem mkToPlaces_all (k : Int) (l : List PlaceT) : mkToPlaces k l l.length = mkdPlaces k l := by
  simp [mkToPlaces, List.take_of_length_le (Nat.le_of_eq (mkdPlaces_length k l))]
theorem mkToPlaces_length {k : Int} {l : List PlaceT} {j : Nat} (h : j ≤ l.length) : (mkToPlaces k l j).length = l.length := by simp [mkToPlaces, mkdPlaces_length]; omega
theorem mkToPlaces_succ {k : Int} {l : List PlaceT} {j : Nat} (hj : j < l.length) : (mkToPlaces k l j).set j (markPlace k j) = mkToPlaces k l (j + 1) := by
  unfold mkToPlaces
  rw [take_succ_of (mkdPlaces_get hj), List.set_append_right _ _ (by simp [mkdPlaces_length]; omega)]
  obtain ⟨x, s, h1, h2⟩ : ∃ x s, l.drop j = x :: s ∧ l.drop (j + 1) = s := ⟨_, _, List.drop_eq_getElem_cons hj, rfl⟩
  rw [h1, h2]
  simp [mkdPlaces_length, Nat.min_eq_left (Nat.le_of_lt hj)]

theorem setPlace_seg {W : World} {base g n cap : Nat} {l : List PlaceT} {j : Nat} (h : W.ownsRow base 99 2 (.slice (some ⟨g, 0, none⟩) n cap) n (l.flatMap cellsPlace)) (x : PlaceT) (hj : j < l.length) :
    (((W.setCell ⟨g, j * 2, none⟩ (.int .i64 x.1)).setCell ⟨g, j * 2 + 1, none⟩ (.int .i64 x.2))).ownsRow base 99 2 (.slice (some ⟨g, 0, none⟩) n cap) n ((l.set j x).flatMap cellsPlace) ∧ W.grownBy (((W.setCell ⟨g, j * 2, none⟩ (.int .i64 x.1)).setCell ⟨g, j * 2 + 1, none⟩ (.int .i64 x.2))) (some g) := by
  have s0 := World.ownsRow.stored h (j * 2) (.int .i64 x.1)
  have s1 := World.ownsRow.stored s0.1 (j * 2 + 1) (.int .i64 x.2)
  have hlen := flat_length cellsPlace_length l
  have hjl : j * 2 + 2 ≤ l.length * 2 := by rw [← Nat.succ_mul]; exact Nat.mul_le_mul_right _ hj
  have e0 : (l.flatMap cellsPlace) = (l.flatMap cellsPlace).take (j * 2) ++ [] ++ (l.flatMap cellsPlace).drop (j * 2 + 0) := by simp
  have e1 := seg_set (l.flatMap cellsPlace) (j * 2) [] (.int .i64 x.1) (by simp only [List.length_cons, List.length_nil, hlen]; omega)
  have e2 := seg_set (l.flatMap cellsPlace) (j * 2) [.int .i64 x.1] (.int .i64 x.2) (by simp only [List.length_cons, List.length_nil, hlen]; omega)
  refine ⟨?_, (s0.2.trans s1.2)⟩
  rw [← flat_set (c := cellsPlace) (a := x) cellsPlace_length hj]
  have e9 := s1.1
  rw [show (l.flatMap cellsPlace).set (j * 2) (.int .i64 x.1) = (l.flatMap cellsPlace).take (j * 2) ++ [.int .i64 x.1] ++ (l.flatMap cellsPlace).drop (j * 2 + 1) from by have h9 := e1; simp only [List.length_nil] at h9; rwa [← e0] at h9, show ((l.flatMap cellsPlace).take (j * 2) ++ [.int .i64 x.1] ++ (l.flatMap cellsPlace).drop (j * 2 + 1) : List Value).set (j * 2 + 1) (.int .i64 x.2) = (l.flatMap cellsPlace).take (j * 2) ++ [.int .i64 x.1, .int .i64 x.2] ++ (l.flatMap cellsPlace).drop (j * 2 + 2) from e2] at e9
  exact e9


end Go.Proofs.Ytmfeabfbhaiaeaa
