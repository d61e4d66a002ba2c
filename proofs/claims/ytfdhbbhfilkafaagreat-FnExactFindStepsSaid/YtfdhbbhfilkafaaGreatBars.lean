/- Slices of Bar: reading, owning, and the law's helpers on them (written by structgen.py). No condition but sizes below 2^44. -/
import Derived.Test.YtfdhbbhfilkafaaGreatElem
import Derived.Test.YtfdhbbhfilkafaaGreatInts
import Derived.Laws.StructEq
namespace Go.Proofs.YtfdhbbhfilkafaaGreat
open Go.RowKit
set_option maxRecDepth 100000
set_option linter.unusedVariables false
set_option linter.unusedSimpArgs false

abbrev BarT := Int × Int
def cellsBar (x : BarT) : List Value := [.int .i64 x.1, .int .i64 x.2]
def aggBar (x : BarT) : Value := .agg #[.int .i64 x.1, .int .i64 x.2]
theorem cellsBar_length (x : BarT) : (cellsBar x).length = 2 := rfl

theorem infoBar : (Tryz.prog.info? 78).map (fun i => (i.zero, i.size, i.bytes)) = some (some (.agg #[.int .i64 0, .int .i64 0]), 2, 16) := by kernel_rfl

/-- The slice value (a, n) reads as l. -/
def BarsAt (W : World) (a : Option Addr) (n : Nat) (l : List BarT) : Prop :=
  l.length = n ∧ ∀ k, k < n → ∃ b off, ∃ x : BarT, a = some ⟨b, off, none⟩ ∧ b < W.heap.size ∧ l[k]? = some x ∧ W.cell? ⟨b, off + k * 2, none⟩ = some (.int .i64 x.1) ∧ W.cell? ⟨b, off + k * 2 + 1, none⟩ = some (.int .i64 x.2)
theorem BarsAt.below {W W' : World} {a : Option Addr} {n : Nat} {l : List BarT} (h : BarsAt W a n l) (hk : Below W.heap.size W W') : BarsAt W' a n l :=
  ⟨h.1, fun k hkn => by
    obtain ⟨b, off, x, ha, hb, hx, c0, c1⟩ := h.2 k hkn
    exact ⟨b, off, x, ha, Nat.lt_of_lt_of_le hb hk.size, hx, (hk.cell (p := ⟨b, off + k * 2, none⟩) hb).trans c0, (hk.cell (p := ⟨b, off + k * 2 + 1, none⟩) hb).trans c1⟩⟩

def OwnBars (W : World) (base : Nat) (v : Value) (l : List BarT) : Prop := W.ownsRow base 78 2 v l.length (l.flatMap cellsBar)
def IsBars (W : World) (v : Value) (l : List BarT) : Prop := ∃ a cap, v = .slice a l.length cap ∧ BarsAt W a l.length l
theorem IsBars.below {W W' : World} {v : Value} {l : List BarT} (h : IsBars W v l) (hb : Below W.heap.size W W') : IsBars W' v l := by
  obtain ⟨a, cap, rfl, hi⟩ := h
  exact ⟨a, cap, rfl, hi.below hb⟩
theorem ownBars_cell {W : World} {base g n cap : Nat} {l : List BarT} (h : W.ownsRow base 78 2 (.slice (some ⟨g, 0, none⟩) n cap) n (l.flatMap cellsBar)) {k : Nat} {x : BarT} (hx : l[k]? = some x) (hk : k < n) (j : Nat) (hj : j < 2) :
    W.cell? ⟨g, k * 2 + j, none⟩ = (cellsBar x)[j]? := by
  rw [World.ownsRow.cellAt h (k * 2 + j) (by omega)]
  exact flat_get cellsBar_length hx hj
theorem OwnBars.form {W : World} {base : Nat} {v : Value} {l : List BarT} (h : OwnBars W base v l) : IsBars W v l := by
  rcases h.2 with ⟨rfl, h0⟩ | ⟨g, cap, cur, rfl, hb, hg, hnc, hcm, hcs, htake⟩
  · exact ⟨none, 0, by rw [h0], rfl, fun k hk => by omega⟩
  · refine ⟨_, cap, rfl, rfl, fun k hk => ⟨g, 0, l[k], rfl, (Array.getElem?_eq_some_iff.1 hg).1, by simp [hk], ?_⟩⟩
    have H := fun j hj => ownBars_cell (W := W) (base := base) h (k := k) (x := l[k]) (by simp [hk]) hk j hj
    exact ⟨by have := H 0 (by omega); simpa [cellsBar] using this, by have := H 1 (by omega); simpa [cellsBar] using this⟩
theorem OwnBars.lt {W : World} {base : Nat} {v : Value} {l : List BarT} (h : OwnBars W base v l) : ∀ k, v.ownBlock = some k → base ≤ k ∧ k < W.heap.size := World.ownsRow.lt h
def RetBars (W : World) (l : List BarT) (e : Ending) (w' : World) : Prop := ∃ v, e = .returned v ∧ OwnBars w' W.heap.size v l ∧ Below W.heap.size W w'
def HBars (W : World) (lo hi : Nat) (v : Value) (l : List BarT) : Prop := OwnBars W lo v l ∧ ∀ k, v.ownBlock = some k → k < hi
theorem HBars.is {W : World} {lo hi : Nat} {v : Value} {l : List BarT} (h : HBars W lo hi v l) : IsBars W v l := h.1.form
theorem HBars.kept {W W' : World} {lo hi : Nat} {v : Value} {l : List BarT} {S : Nat → Prop} (h : HBars W lo hi v l) (hk : Kept S W W') (hd : ∀ k, lo ≤ k → k < hi → ¬ S k) : HBars W' lo hi v l :=
  ⟨hk.ownsRow h.1 fun k hkk => hd k (h.1.lt k hkk).1 (h.2 k hkk), h.2⟩
theorem HBars.below {W W' : World} {lo hi : Nat} {v : Value} {l : List BarT} (h : HBars W lo hi v l) (hb : Below W.heap.size W W') : HBars W' lo hi v l := h.kept (Kept.of_below (S := fun _ => False) hb) fun _ _ _ => id
theorem OwnBars.h {W : World} {lo : Nat} {v : Value} {l : List BarT} (h : OwnBars W lo v l) : HBars W lo W.heap.size v l := ⟨h, fun k hk => (h.lt k hk).2⟩

set_option maxHeartbeats 1000000 in
theorem toBar_any (x1 x2 : Int) (w : World) :
    Calls Tryz.prog 142 #[.agg #[.int .i64 x1, .int .i64 x2]] w fun e w' => e = .returned (.agg #[.int .i64 x1, .int .i64 x2]) ∧ Below w.heap.size w w' := by
  go_enter Tryz.func142, Tryz.ntmps142
  go_wp2
  refine bodyPost_ret (v := .agg #[.int .i64 x1, .int .i64 x2]) (by simp [results, Tryz.results142, go_sem]) rfl ⟨rfl, ?_⟩
  repeat (first | exact Below.refl _ _ | refine Below.setCell ?_ (by simp) _ | refine Below.alloc ?_ (by simp <;> omega) _)

theorem below2aBar {w : World} {o1 o2 : Obj} : Below w.heap.size w ((w.alloc o1).alloc o2) := ((Below.refl _ w).alloc (Nat.le_refl _) o1).alloc (by simp) o2
set_option maxHeartbeats 2000000 in
theorem eqBar_any (x1 x2 y1 y2 : Int) (w : World) :
    Calls Tryz.prog 143 #[.agg #[.int .i64 x1, .int .i64 x2], .agg #[.int .i64 y1, .int .i64 y2]] w fun e w' => e = .returned (.bool (decide (((x1, x2) : BarT) = (y1, y2)))) ∧ Below w.heap.size w w' := by
  by_cases h0 : x1 = y1
  · subst h0
    by_cases h1 : x2 = y2
    · subst h1
      go_enter Tryz.func143, Tryz.ntmps143
      go_wp2
      go_ret
      exact ⟨by simp, below2aBar⟩
    · have hne : (x2 != y2) = true := by simpa using h1
      go_enter Tryz.func143, Tryz.ntmps143
      go_wp2
      go_ret
      exact ⟨by simp [h1], below2aBar⟩
  · have hne : (x1 != y1) = true := by simpa using h0
    go_enter Tryz.func143, Tryz.ntmps143
    go_wp2
    go_ret
    exact ⟨by simp [h0], below2aBar⟩

theorem guardBar : Tryz.prog.eqGuardType Tryz.prog.depth 78 = false := by kernel_rfl
theorem neqBar_run (w : World) (x1 x2 y1 y2 : Int) :
    (binOp .neq 78 (.agg #[.int .i64 x1, .int .i64 x2]) (.agg #[.int .i64 y1, .int .i64 y2])).run Tryz.prog w = .ok (.bool (!(decide (((x1, x2) : BarT) = (y1, y2))))) w := by
  have u3 := Tryz.underlying3
  have hS : Tryz.prog.underlying 78 = some (.struct (Tryz.prog.fieldsOf 78)) := by kernel_rfl
  have hp : Tryz.prog.stoodInHeld 78 = false := by kernel_rfl
  rw [run_neq_struct, show (10000 : Nat) = 9999 + 1 from rfl, run_equalIn_agg w 9999 78 _ _ hS hp]
  simp only [Program.fieldsOf, Tryz.underlying78]
  go_simp
  by_cases h0 : x1 = y1 <;> by_cases h1 : x2 = y2 <;> simp [h0, h1]
theorem eqlBar_run (w : World) (x1 x2 y1 y2 : Int) :
    (binOp .eql 78 (.agg #[.int .i64 x1, .int .i64 x2]) (.agg #[.int .i64 y1, .int .i64 y2])).run Tryz.prog w = .ok (.bool (decide (((x1, x2) : BarT) = (y1, y2)))) w := by
  have u3 := Tryz.underlying3
  have hS : Tryz.prog.underlying 78 = some (.struct (Tryz.prog.fieldsOf 78)) := by kernel_rfl
  have hp : Tryz.prog.stoodInHeld 78 = false := by kernel_rfl
  rw [run_eql_struct, show (10000 : Nat) = 9999 + 1 from rfl, run_equalIn_agg w 9999 78 _ _ hS hp]
  simp only [Program.fieldsOf, Tryz.underlying78]
  go_simp
  by_cases h0 : x1 = y1 <;> by_cases h1 : x2 = y2 <;> simp [h0, h1]
theorem neqBar_t {x1 x2 y1 y2 : Int} (h : ((x1, x2) : BarT) = (y1, y2)) (w : World) : (binOp .neq 78 (.agg #[.int .i64 x1, .int .i64 x2]) (.agg #[.int .i64 y1, .int .i64 y2])).run Tryz.prog w = .ok (.bool false) w := by rw [neqBar_run, decide_eq_true h]; rfl
theorem neqBar_f {x1 x2 y1 y2 : Int} (h : ¬ ((x1, x2) : BarT) = (y1, y2)) (w : World) : (binOp .neq 78 (.agg #[.int .i64 x1, .int .i64 x2]) (.agg #[.int .i64 y1, .int .i64 y2])).run Tryz.prog w = .ok (.bool true) w := by rw [neqBar_run, decide_eq_false h]; rfl
theorem eqlBar_t {x1 x2 y1 y2 : Int} (h : ((x1, x2) : BarT) = (y1, y2)) (w : World) : (binOp .eql 78 (.agg #[.int .i64 x1, .int .i64 x2]) (.agg #[.int .i64 y1, .int .i64 y2])).run Tryz.prog w = .ok (.bool true) w := by rw [eqlBar_run, decide_eq_true h]
theorem eqlBar_f {x1 x2 y1 y2 : Int} (h : ¬ ((x1, x2) : BarT) = (y1, y2)) (w : World) : (binOp .eql 78 (.agg #[.int .i64 x1, .int .i64 x2]) (.agg #[.int .i64 y1, .int .i64 y2])).run Tryz.prog w = .ok (.bool false) w := by rw [eqlBar_run, decide_eq_false h]

theorem eqBar_t {x1 x2 y1 y2 : Int} (h : ((x1, x2) : BarT) = (y1, y2)) (w : World) : Calls Tryz.prog 143 #[.agg #[.int .i64 x1, .int .i64 x2], .agg #[.int .i64 y1, .int .i64 y2]] w fun e w' => e = .returned (.bool true) ∧ Below w.heap.size w w' :=
  (eqBar_any x1 x2 y1 y2 w).mono fun _ _ ⟨he, hb⟩ => ⟨by rw [he, decide_eq_true h], hb⟩
theorem eqBar_f {x1 x2 y1 y2 : Int} (h : ¬ ((x1, x2) : BarT) = (y1, y2)) (w : World) : Calls Tryz.prog 143 #[.agg #[.int .i64 x1, .int .i64 x2], .agg #[.int .i64 y1, .int .i64 y2]] w fun e w' => e = .returned (.bool false) ∧ Below w.heap.size w w' :=
  (eqBar_any x1 x2 y1 y2 w).mono fun _ _ ⟨he, hb⟩ => ⟨by rw [he, decide_eq_false h], hb⟩

theorem madeCells_Bar (n : Nat) : (madeCells #[.int .i64 0, .int .i64 0] (n * 2)).toList = (List.replicate n ((0, 0) : BarT)).flatMap cellsBar := by
  have h : (List.replicate n ((0, 0) : BarT)).flatMap cellsBar = List.replicate (n * 2) (.int .i64 0) := by
    induction n with
    | zero => rfl
    | succ n ih => rw [List.replicate_succ, List.flatMap_cons, ih, Nat.succ_mul, Nat.add_comm, ← List.replicate_append_replicate]; rfl
  rw [h]
  apply List.ext_getElem?
  intro j
  by_cases hj : j < n * 2
  · have hm : j % 2 < 2 := Nat.mod_lt _ (by omega)
    generalize hq : j % 2 = q at hm
    have hq' : ∀ (z : Array Value), z.size = 2 → z[j % z.size]! = z[q]! := fun z hz => by rw [hz, hq]
    simp only [madeCells, Array.toList_map, List.getElem?_map, Array.toList_range, List.getElem?_range hj, Option.map_some, List.getElem?_replicate, if_pos hj]
    rw [hq' _ rfl]
    match q, hm with
    | 0, _ => rfl
    | 1, _ => rfl
  · rw [List.getElem?_eq_none (by simp [size_madeCells]; omega), List.getElem?_eq_none (by simp; omega)]

set_option maxHeartbeats 2000000 in
theorem toBars_any (a : Option Addr) (n cap : Nat) (l : List BarT) (W : World) (h : BarsAt W a n l) (hn : n ≤ 1099511627776) :
    Calls Tryz.prog 113 #[.slice a n cap] W (RetBars W l) := by
  obtain ⟨i0, hi, hz0, hz1, hz2⟩ := info_parts infoBar
  obtain ⟨hl, hc⟩ := h
  have HL := Lib.hid hl
  have HC := Lib.hid hc
  clear hl hc
  go_enter Tryz.func113, Tryz.ntmps113
  go_wp2_with (at_make; refine wpList_make_full _ rfl _ _ _ rfl W.heap.size 78 i0 (.agg #[.int .i64 0, .int .i64 0]) 2 Tryz.underlying24 hi hz0 hz1 .i64 .i64 _ _ n rfl rfl rfl rfl (by rw [hz2]; omega) (by unfold maxLen; omega) (Nat.le_refl _) ?_; intro w1 hown hgrow)
  have hb0 : Below W.heap.size W w1 := Below.of_grown_none hgrow
  have hs0 : W.heap.size < w1.heap.size := (World.ownsRow.lt hown _ rfl).2
  go_loopw [4] (fun i wr => ∃ k : Nat, k ≤ n ∧ i = .int .i64 k ∧ wr.ownsRow W.heap.size 78 2 (.slice (some ⟨W.heap.size, 0, none⟩) n n) n ((l.take k ++ List.replicate (n - k) ((0, 0) : BarT)).flatMap cellsBar) ∧ Below W.heap.size W wr ∧ W.heap.size < wr.heap.size) (fun i _ => n - (intOf i).toNat)
  case atStart =>
    refine ⟨0, Nat.zero_le _, rfl, ?_, hb0, hs0⟩
    have h2 := hown
    simp only [Value.cells] at h2
    rw [madeCells_Bar] at h2
    simpa using h2
  case round =>
    clear hown hgrow hb0
    obtain ⟨k, hk, rfl, ho, hb, hsz⟩ := hrel
    by_cases hlt : k < n
    · obtain ⟨b, off, ⟨x1, x2⟩, rfl, hbl, hx, hc0, hc1⟩ := HC.out k hlt
      have HX := Lib.hid hx
      clear hx
      dsimp only at hc0 hc1
      have hcw0 : wr.cell? ⟨b, off + k * 2, none⟩ = some (.int .i64 x1) := (hb.cell (p := ⟨b, off + k * 2, none⟩) hbl).trans hc0
      have hcw1 : wr.cell? ⟨b, off + k * 2 + 1, none⟩ = some (.int .i64 x2) := (hb.cell (p := ⟨b, off + k * 2 + 1, none⟩) hbl).trans hc1
      clear hc0 hc1
      have HO := Lib.hid ho
      clear ho
      have hkk : (k : Int) < (n : Int) := by omega
      go_wp2_with fail
      refine (toBar_any _ _ _).mono ?_
      rintro e w2 ⟨rfl, b2⟩
      have HO2 := Lib.hid (Below.ownsRow b2 HO.out)
      have hsz2 := b2.size
      have hb2 := hb.trans (b2.mono hb.size)
      clear HO b2
      go_wp2_with (refine wpList_store_elem _ rfl rfl 78 _ _ rfl 78 i0 2 hi hz1 W.heap.size W.heap.size n n _ HO2.out k _ hlt rfl rfl _ rfl [.int .i64 x1, .int .i64 x2] rfl rfl (by intro u hu; simp at hu; rcases hu with rfl | rfl <;> rfl) ?_; intro w3 ho3 hg3)
      go_roundw
      case rel =>
        refine ⟨k + 1, by omega, by go_num, ?_, hb2.grown hg3 (by omega) (by intro q hq; cases hq; exact Nat.le_refl _), Nat.lt_of_lt_of_le (by omega) hg3.size⟩
        have h4 := flat_set (c := cellsBar) cellsBar_length (l := l.take k ++ List.replicate (n - k) ((0, 0) : BarT)) (k := k) (a := (x1, x2)) (by have := HL.out; simp; omega)
        rw [take_rep_set_any HL.out HX.out] at h4
        rw [← h4]
        exact ho3
      case measure => simp [intOf]; omega
    · obtain rfl : k = n := by omega
      go_wp2
      go_ret
      refine ⟨_, rfl, ?_, hb⟩
      have h2 := ho
      have h3 := HL.out
      simp only [Nat.sub_self, List.replicate_zero, List.append_nil] at h2
      rw [List.take_of_length_le (by omega)] at h2
      unfold OwnBars
      rw [h3]
      exact h2

set_option maxHeartbeats 2000000 in
theorem eqBars_any (a a' : Option Addr) (n cap n' cap' : Nat) (l l' : List BarT) (W : World) (h : BarsAt W a n l) (h' : BarsAt W a' n' l') (hn : n ≤ 1099511627776) :
    Calls Tryz.prog 115 #[.slice a n cap, .slice a' n' cap'] W fun e w' => e = .returned (.bool (decide (l = l'))) ∧ Below W.heap.size W w' := by
  have hwd := @Wd.cells
  obtain ⟨hl, hc⟩ := h
  obtain ⟨hl', hc'⟩ := h'
  have HL := Lib.hid hl
  have HL' := Lib.hid hl'
  have HC := Lib.hid hc
  have HC' := Lib.hid hc'
  clear hl hc hl' hc'
  by_cases hnn : n = n'
  · subst hnn
    go_enter Tryz.func115, Tryz.ntmps115
    go_wp2
    go_loopw [5] (fun i wr => ∃ k : Nat, k ≤ n ∧ i = .int .i64 k ∧ Below W.heap.size W wr ∧ l.take k = l'.take k) (fun i _ => n - (intOf i).toNat)
    case atStart => exact ⟨0, Nat.zero_le _, rfl, Below.refl _ _, rfl⟩
    case round =>
      obtain ⟨k, hk, rfl, hb, hp⟩ := hrel
      have HP := Lib.hid hp
      clear hp
      by_cases hlt : k < n
      · obtain ⟨b, off, ⟨x1, x2⟩, rfl, hbl, hx, hc0, hc1⟩ := HC.out k hlt
        obtain ⟨b', off', ⟨y1, y2⟩, rfl, hbl', hx', hd0, hd1⟩ := HC'.out k hlt
        have HX := Lib.hid hx
        have HX' := Lib.hid hx'
        clear hx hx'
        dsimp only at hc0 hc1 hd0 hd1
        have hcw0 : wr.cell? ⟨b, off + k * 2, none⟩ = some (.int .i64 x1) := (hb.cell (p := ⟨b, off + k * 2, none⟩) hbl).trans hc0
        have hcw1 : wr.cell? ⟨b, off + k * 2 + 1, none⟩ = some (.int .i64 x2) := (hb.cell (p := ⟨b, off + k * 2 + 1, none⟩) hbl).trans hc1
        have hdw0 : wr.cell? ⟨b', off' + k * 2, none⟩ = some (.int .i64 y1) := (hb.cell (p := ⟨b', off' + k * 2, none⟩) hbl').trans hd0
        have hdw1 : wr.cell? ⟨b', off' + k * 2 + 1, none⟩ = some (.int .i64 y2) := (hb.cell (p := ⟨b', off' + k * 2 + 1, none⟩) hbl').trans hd1
        clear hc0 hc1 hd0 hd1
        have hbz := hb.size
        have hbw : b < wr.heap.size := by omega
        have hbw' : b' < wr.heap.size := by omega
        by_cases hxx : (((x1, x2) : BarT) = (y1, y2))
        · have HXX := Lib.hid hxx
          clear hxx
          go_wp2
          refine wp_region_wd (by kernel_rfl) (by kernel_rfl) ?_
          repeat (go_big_quiet_step ((first | (go_at_call 143; exact Calls.wd_of (eqBar_t HXX.out _)))))
          refine wpQuiet_nil ?_
          intro n1
          have hn1 := n1.h
          go_wp2
          go_roundw
          case rel => exact ⟨k + 1, by omega, by go_num, hb.step n1.h, by rw [take_succ_of HX.out, take_succ_of HX'.out, HP.out, HXX.out]⟩
          case measure => simp [intOf]; omega
        · have HXX := Lib.hid hxx
          clear hxx
          go_wp2
          refine wp_region_wd (by kernel_rfl) (by kernel_rfl) ?_
          repeat (go_big_quiet_step ((first | (go_at_call 143; exact Calls.wd_of (eqBar_f HXX.out _)))))
          refine wpQuiet_nil ?_
          intro n1
          have hn1 := n1.h
          go_wp2
          go_ret
          refine ⟨?_, hb.step n1.h⟩
          rw [show decide (l = l') = false from decide_eq_false fun e => HXX.out (Option.some.inj (by rw [← HX.out, ← HX'.out, e]))]
          try rfl
      · obtain rfl : k = n := by omega
        go_wp2
        go_ret
        have h1 := HP.out
        rw [List.take_of_length_le (by have := HL.out; omega), List.take_of_length_le (by have := HL'.out; omega)] at h1
        exact ⟨by simp [h1], hb⟩
  · have hne : (n != n') = true := by simpa using hnn
    have hne2 : ((n : Int) != (n' : Int)) = true := by simp; omega
    go_enter Tryz.func115, Tryz.ntmps115
    go_wp2
    go_ret
    refine ⟨?_, Below.refl _ _⟩
    rw [show decide (l = l') = false from decide_eq_false fun e => hnn (by rw [← HL.out, ← HL'.out, e])]
    try rfl

set_option maxHeartbeats 1000000 in
theorem szBars_any (a : Option Addr) (n cap : Nat) (k : Int) (W : World) (hn : n ≤ 9223372036854775807) (hk0 : 0 ≤ k) (hk : k ≤ 1048576) :
    Calls Tryz.prog 112 #[.slice a n cap, .int .i64 k] W fun e w' => e = .returned (.int .i64 (szRes k n)) ∧ W = w' := by
  by_cases h : k < n
  · have HE := Lib.hid (szRes_pos h)
    go_enter Tryz.func112, Tryz.ntmps112
    go_wp2
    go_ret
    refine ⟨?_, rfl⟩
    rw [HE.out]
    try rfl
  · have HE := Lib.hid (szRes_neg h)
    go_enter Tryz.func112, Tryz.ntmps112
    go_wp2
    go_ret
    refine ⟨?_, rfl⟩
    rw [HE.out]
    try rfl

theorem toBars_h (W : World) (v : Value) (l : List BarT) (h : IsBars W v l) (hn : l.length ≤ 1048576) : Calls Tryz.prog 113 #[v] W (RetBars W l) := by
  obtain ⟨a, cap, rfl, hi⟩ := h
  exact toBars_any _ _ _ _ _ hi (by omega)
theorem eqBars_h (W : World) (v v' : Value) (l : List BarT) (h : IsBars W v l) (h' : IsBars W v' l) (hn : l.length ≤ 1099511627776) :
    Calls Tryz.prog 115 #[v, v'] W fun e w' => e = .returned (.bool true) ∧ Below W.heap.size W w' := by
  obtain ⟨a, cap, rfl, i⟩ := h
  obtain ⟨a', cap', rfl, i'⟩ := h'
  exact (eqBars_any _ _ _ _ _ _ _ _ _ i i' hn).mono fun _ _ ⟨he, hb⟩ => ⟨by rw [he]; simp, hb⟩
def OkBars (l : List BarT) : Prop := l.length ≤ 9223372036854775807 ∧ ∀ x ∈ l, (-9223372036854775808 ≤ x.1 ∧ x.1 ≤ 9223372036854775807) ∧ (-9223372036854775808 ≤ x.2 ∧ x.2 ≤ 9223372036854775807)
theorem szBars_h (W : World) (v : Value) (l : List BarT) (k : Int) (h : IsBars W v l) (hn : OkBars l) (hk0 : 0 ≤ k) (hk : k ≤ 1048576) :
    Calls Tryz.prog 112 #[v, .int .i64 k] W fun e w' => e = .returned (.int .i64 (szRes k l.length)) ∧ Below W.heap.size W w' := by
  obtain ⟨a, cap, rfl, i⟩ := h
  exact (szBars_any _ _ _ _ _ hn.1 hk0 hk).mono fun _ _ ⟨he, hw⟩ => ⟨he, by rw [← hw]; exact Below.refl _ _⟩

/-- the j-th of the marked elements -/
def markBar (k : Int) (j : Nat) : BarT := (k + 2 * (j : Int), k + 2 * (j : Int) + 1)
def cntBars (l : List BarT) : Nat := 2 * l.length
theorem cntBars_le (l : List BarT) : cntBars l ≤ 2 * l.length := Nat.le_refl _
def mkdBars (k : Int) (l : List BarT) : List BarT := (List.range l.length).map (markBar k)
theorem mkdBars_length (k : Int) (l : List BarT) : (mkdBars k l).length = l.length := by simp [mkdBars]
theorem mkdBars_get {k : Int} {l : List BarT} {j : Nat} (h : j < l.length) : (mkdBars k l)[j]? = some (markBar k j) := by simp [mkdBars, h]
def mkToBars (k : Int) (l : List BarT) (j : Nat) : List BarT := (mkdBars k l).take j ++ l.drop j
theorem mkToBars_zero (k : Int) (l : List BarT) : mkToBars k l 0 = l := by simp [mkToBars]
theorem mkToBars_all (k : Int) (l : List BarT) : mkToBars k l l.length = mkdBars k l := by
  simp [mkToBars, List.take_of_length_le (Nat.le_of_eq (mkdBars_length k l))]
theorem mkToBars_length {k : Int} {l : List BarT} {j : Nat} (h : j ≤ l.length) : (mkToBars k l j).length = l.length := by simp [mkToBars, mkdBars_length]; omega
theorem mkToBars_succ {k : Int} {l : List BarT} {j : Nat} (hj : j < l.length) : (mkToBars k l j).set j (markBar k j) = mkToBars k l (j + 1) := by
  unfold mkToBars
  rw [take_succ_of (mkdBars_get hj), List.set_append_right _ _ (by simp [mkdBars_length]; omega)]
  obtain ⟨x, s, h1, h2⟩ : ∃ x s, l.drop j = x :: s ∧ l.drop (j + 1) = s := ⟨_, _, List.drop_eq_getElem_cons hj, rfl⟩
  rw [h1, h2]
  simp [mkdBars_length, Nat.min_eq_left (Nat.le_of_lt hj)]

theorem setBar_seg {W : World} {base g n cap : Nat} {l : List BarT} {j : Nat} (h : W.ownsRow base 78 2 (.slice (some ⟨g, 0, none⟩) n cap) n (l.flatMap cellsBar)) (x : BarT) (hj : j < l.length) :
    (((W.setCell ⟨g, j * 2, none⟩ (.int .i64 x.1)).setCell ⟨g, j * 2 + 1, none⟩ (.int .i64 x.2))).ownsRow base 78 2 (.slice (some ⟨g, 0, none⟩) n cap) n ((l.set j x).flatMap cellsBar) ∧ W.grownBy (((W.setCell ⟨g, j * 2, none⟩ (.int .i64 x.1)).setCell ⟨g, j * 2 + 1, none⟩ (.int .i64 x.2))) (some g) := by
  have s0 := World.ownsRow.stored h (j * 2) (.int .i64 x.1)
  have s1 := World.ownsRow.stored s0.1 (j * 2 + 1) (.int .i64 x.2)
  have hlen := flat_length cellsBar_length l
  have hjl : j * 2 + 2 ≤ l.length * 2 := by rw [← Nat.succ_mul]; exact Nat.mul_le_mul_right _ hj
  have e0 : (l.flatMap cellsBar) = (l.flatMap cellsBar).take (j * 2) ++ [] ++ (l.flatMap cellsBar).drop (j * 2 + 0) := by simp
  have e1 := seg_set (l.flatMap cellsBar) (j * 2) [] (.int .i64 x.1) (by simp only [List.length_cons, List.length_nil, hlen]; omega)
  have e2 := seg_set (l.flatMap cellsBar) (j * 2) [.int .i64 x.1] (.int .i64 x.2) (by simp only [List.length_cons, List.length_nil, hlen]; omega)
  refine ⟨?_, (s0.2.trans s1.2)⟩
  rw [← flat_set (c := cellsBar) (a := x) cellsBar_length hj]
  have e9 := s1.1
  rw [show (l.flatMap cellsBar).set (j * 2) (.int .i64 x.1) = (l.flatMap cellsBar).take (j * 2) ++ [.int .i64 x.1] ++ (l.flatMap cellsBar).drop (j * 2 + 1) from by have h9 := e1; simp only [List.length_nil] at h9; rwa [← e0] at h9, show ((l.flatMap cellsBar).take (j * 2) ++ [.int .i64 x.1] ++ (l.flatMap cellsBar).drop (j * 2 + 1) : List Value).set (j * 2 + 1) (.int .i64 x.2) = (l.flatMap cellsBar).take (j * 2) ++ [.int .i64 x.1, .int .i64 x.2] ++ (l.flatMap cellsBar).drop (j * 2 + 2) from e2] at e9
  exact e9

set_option maxHeartbeats 2000000 in
theorem markBars_any (base : Nat) (v : Value) (l : List BarT) (k : Int) (W : World) (h : OwnBars W base v l) (hn : l.length ≤ 1099511627776) (hk0 : 0 ≤ k) (hk : k ≤ 1099511627776) :
    Calls Tryz.prog 116 #[v, .int .i64 k] W fun e w' => e = .returned (.int .i64 (k + cntBars l)) ∧ OwnBars w' base v (mkdBars k l) ∧ W.grownBy w' v.ownBlock := by
  rcases h.2 with ⟨rfl, h0⟩ | ⟨g, cap, cur, rfl, hb, hg, hnc, hcm, hcs, htake⟩
  · have h1 : l = [] := List.eq_nil_of_length_eq_zero h0
    subst h1
    go_enter Tryz.func116, Tryz.ntmps116
    go_wp2
    go_loopw [1, 5] (fun c i wr => c = .int .i64 k ∧ i = .int .i64 0 ∧ wr = W) (fun c i _ => 0)
    case atStart => exact ⟨rfl, rfl, rfl⟩
    case round =>
      obtain ⟨rfl, rfl, rfl⟩ := hrel
      go_wp2
      go_ret
      exact ⟨by simp [cntBars], h, World.grownBy.refl _ _⟩
  · have H := Lib.hid h
    clear hg hcs htake h
    generalize hL : l.length = n at *
    have HL := Lib.hid hL
    clear hL
    go_enter Tryz.func116, Tryz.ntmps116
    go_wp2
    go_loopw [1, 5] (fun c i wr => ∃ j : Nat, j ≤ n ∧ i = .int .i64 j ∧ c = .int .i64 (k + 2 * (j : Int)) ∧ wr.ownsRow base 78 2 (.slice (some ⟨g, 0, none⟩) n cap) n ((mkToBars k l j).flatMap cellsBar) ∧ W.grownBy wr (some g)) (fun c i _ => n - (intOf i).toNat)
    case atStart =>
      have h2 := H.out
      unfold OwnBars at h2
      rw [HL.out] at h2
      exact ⟨0, Nat.zero_le _, rfl, by simp, by rw [mkToBars_zero]; exact h2, World.grownBy.refl _ _⟩
    case round =>
      obtain ⟨j, hj, rfl, rfl, ho, hgr⟩ := hrel
      by_cases hlt : j < n
      · have hln : (mkToBars k l j).length = n := by rw [mkToBars_length (by have := HL.out; omega), HL.out]
        obtain ⟨x, hx⟩ : ∃ x, (mkToBars k l j)[j]? = some x := ⟨_, List.getElem?_eq_getElem (by omega)⟩
        have u0 := ownBars_cell ho hx hlt 0 (by omega)
        have f0 := World.ownsRow.frozenAt ho (j * 2)
        simp only [cellsBar, List.getElem?_cons_zero, List.getElem?_cons_succ, Nat.add_zero] at u0
        have u1 := ownBars_cell ho hx hlt 1 (by omega)
        have f1 := World.ownsRow.frozenAt ho (j * 2 + 1)
        simp only [cellsBar, List.getElem?_cons_zero, List.getElem?_cons_succ, Nat.add_zero] at u1
        have HO := Lib.hid ho
        have HLN := Lib.hid hln
        clear ho hx hln
        go_wp2
        go_roundw
        case rel =>
          have h3 := setBar_seg (j := j) HO.out (markBar k j) (by have := HLN.out; omega)
          rw [mkToBars_succ (k := k) (l := l) (j := j) (by have := HL.out; omega)] at h3
          exact ⟨j + 1, by omega, by go_num, by go_num, h3.1, hgr.trans h3.2⟩
        case measure => simp [intOf]; omega
      · obtain rfl : j = n := by omega
        go_wp2
        go_ret
        refine ⟨ret_int (by unfold cntBars; rw [HL.out]; omega), ?_, hgr⟩
        have h3 := ho
        rw [← HL.out, mkToBars_all, HL.out] at h3
        unfold OwnBars
        rw [mkdBars_length, HL.out]
        exact h3
theorem markBars_h (W : World) (lo hi : Nat) (v : Value) (l : List BarT) (k : Int) (h : HBars W lo hi v l) (hn : l.length ≤ 1099511627776) (hk0 : 0 ≤ k) (hk : k ≤ 1099511627776) :
    Calls Tryz.prog 116 #[v, .int .i64 k] W fun e w' => e = .returned (.int .i64 (k + cntBars l)) ∧ HBars w' lo hi v (mkdBars k l) ∧ Kept (Blk lo hi) W w' :=
  (markBars_any lo v l k W h.1 hn hk0 hk).mono fun _ _ ⟨he, ho, hg⟩ => ⟨he, ⟨ho, h.2⟩, (Kept.of_grown hg).mono fun j _ hj => ⟨(h.1.lt j hj.symm).1, h.2 j hj.symm⟩⟩

end Go.Proofs.YtfdhbbhfilkafaaGreat
