/- The law's helpers on slices of ints: toIntS, eqIntS, markIntS, heldIntS, szIntS. No condition but sizes below 2^44. -/
import Derived.Test.YtfdhbbhfilkafaaOwn
namespace Go.Proofs.Ytfdhbbhfilkafaa
open Go.RowKit
set_option maxRecDepth 100000
set_option linter.unusedVariables false
set_option linter.unusedSimpArgs false

theorem take_rep_set {l : List Int} {n k : Nat} {x : Int} (hl : l.length = n) (hx : l[k]? = some x) :
    ((l.take k).map (Value.int .i64) ++ List.replicate (n - k) (Value.int .i64 0)).set k (Value.int .i64 x) = (l.take (k + 1)).map (Value.int .i64) ++ List.replicate (n - (k + 1)) (Value.int .i64 0) := by
  have hk := lt_of_getElem? hx
  rw [take_succ_of hx, List.set_append_right _ _ (by simp; omega)]
  obtain ⟨m, hm⟩ : ∃ m, n - k = m + 1 := ⟨n - k - 1, by omega⟩
  have h1 : k - min k l.length = 0 := by omega
  have h2 : n - (k + 1) = m := by omega
  simp [hm, h1, h2, List.replicate_succ]

set_option maxHeartbeats 1000000 in
theorem eqIntS_any (a a' : Option Addr) (n cap n' cap' : Nat) (l l' : List Int) (W : World) (h : IntsAt W a n l) (h' : IntsAt W a' n' l') (hn : n ≤ 17592186044416) :
    Calls Try.prog 81 #[.slice a n cap, .slice a' n' cap'] W fun e w' => e = .returned (.bool (decide (l = l'))) ∧ ∃ m, w' = W.drewN m := by
  obtain ⟨hl, hc⟩ := h
  obtain ⟨hl', hc'⟩ := h'
  have HL := Lib.hid hl
  have HL' := Lib.hid hl'
  have HC := Lib.hid hc
  have HC' := Lib.hid hc'
  clear hl hc hl' hc'
  by_cases hnn : n = n'
  · subst hnn
    go_enter Try.func81, Try.ntmps81
    go_wp2
    go_loopw [5] (fun i wr => ∃ k : Nat, k ≤ n ∧ i = .int .i64 k ∧ (∃ m, wr = W.drewN m) ∧ l.take k = l'.take k) (fun i _ => n - (intOf i).toNat)
    case atStart => exact ⟨0, Nat.zero_le _, rfl, ⟨0, rfl⟩, rfl⟩
    case round =>
      obtain ⟨k, hk, rfl, ⟨m, rfl⟩, hp⟩ := hrel
      have HP := Lib.hid hp
      clear hp
      by_cases hlt : k < n
      · obtain ⟨b, off, x, rfl, hbl, hx, hcell⟩ := HC.out k hlt
        obtain ⟨b', off', x', rfl, hbl', hx', hcell'⟩ := HC'.out k hlt
        have HX := Lib.hid hx
        have HX' := Lib.hid hx'
        clear hx hx'
        by_cases hxx : x = x'
        · subst hxx
          go_wp2
          go_quiet (fail)
          go_wp2
          go_roundw
          case rel => exact ⟨k + 1, by omega, by go_num, ⟨_, rfl⟩, by rw [take_succ_of HX.out, take_succ_of HX'.out, HP.out]⟩
          case measure => simp [intOf]; omega
        · have hne : (x != x') = true := by simpa using hxx
          go_wp2
          go_quiet (fail)
          go_wp2
          go_ret
          refine ⟨?_, by first | exact ⟨_, rfl⟩ | exact ⟨_, World.drewN_drewN _ _ _⟩⟩
          rw [show decide (l = l') = false from decide_eq_false fun e => hxx (Option.some.inj (by rw [← HX.out, ← HX'.out, e]))]
          try rfl
      · obtain rfl : k = n := by omega
        go_wp2
        go_ret
        have h1 := HP.out
        rw [List.take_of_length_le (by have := HL.out; omega), List.take_of_length_le (by have := HL'.out; omega)] at h1
        exact ⟨by simp [h1], m, rfl⟩
  · have hne : (n != n') = true := by simpa using hnn
    have hne2 : ((n : Int) != (n' : Int)) = true := by simp; omega
    go_enter Try.func81, Try.ntmps81
    go_wp2
    go_ret
    refine ⟨?_, 0, rfl⟩
    rw [show decide (l = l') = false from decide_eq_false fun e => hnn (by rw [← HL.out, ← HL'.out, e])]
    try rfl

/-- n numbers from k on -/
def marks (n : Nat) (k : Int) : List Int := (List.range n).map fun j : Nat => k + (j : Int)
theorem marks_length (n : Nat) (k : Int) : (marks n k).length = n := by simp [marks]
theorem marks_get {n j : Nat} {k : Int} (h : j < n) : (marks n k)[j]? = some (k + j) := by simp [marks, h]

theorem ownInts_set {W : World} {base g n cap k : Nat} {l : List Int} {x : Int} (h : W.ownsRow base 3 1 (.slice (some ⟨g, 0, none⟩) n cap) n (l.map (Value.int .i64))) :
    (W.setCell ⟨g, k, none⟩ (.int .i64 x)).ownsRow base 3 1 (.slice (some ⟨g, 0, none⟩) n cap) n ((l.set k x).map (Value.int .i64)) := by
  have h2 := (World.ownsRow.stored h k (.int .i64 x)).1
  rwa [List.map_set]

/-- the first j replaced by k, k + 1, .. -/
def markTo (l : List Int) (k : Int) (j : Nat) : List Int := marks j k ++ l.drop j
theorem markTo_length {l : List Int} {k : Int} {j : Nat} (h : j ≤ l.length) : (markTo l k j).length = l.length := by simp [markTo, marks]; omega
theorem markTo_succ {l : List Int} {k : Int} {j : Nat} (h : j < l.length) : (markTo l k j).set j (k + j) = markTo l k (j + 1) := by
  unfold markTo
  obtain ⟨x, r, h1, h2⟩ : ∃ x r, l.drop j = x :: r ∧ l.drop (j + 1) = r := ⟨_, _, List.drop_eq_getElem_cons h, rfl⟩
  rw [List.set_append_right _ _ (by simp [marks]), h1, h2]
  simp [marks, List.range_succ]
theorem markTo_all {l : List Int} {k : Int} : markTo l k l.length = marks l.length k := by simp [markTo]

set_option maxHeartbeats 1000000 in
theorem markIntS_any (base : Nat) (v : Value) (l : List Int) (k : Int) (W : World) (h : OwnInts W base v l) (hn : l.length ≤ 17592186044416) (hk0 : 0 ≤ k) (hk : k ≤ 1152921504606846976) :
    Calls Try.prog 84 #[v, .int .i64 k] W fun e w' => e = .returned (.int .i64 (k + l.length)) ∧ OwnInts w' base v (marks l.length k) ∧ W.grownBy w' v.ownBlock := by
  rcases h.2 with ⟨rfl, h0⟩ | ⟨g, cap, cur, rfl, hb, hg, hnc, hcm, hcs, htake⟩
  · have h1 : l = [] := List.eq_nil_of_length_eq_zero h0
    subst h1
    go_enter Try.func84, Try.ntmps84
    go_wp2
    go_loopw [1, 5] (fun c i wr => c = .int .i64 k ∧ i = .int .i64 0 ∧ wr = W) (fun c i _ => 0)
    case atStart => exact ⟨rfl, rfl, rfl⟩
    case round =>
      obtain ⟨rfl, rfl, rfl⟩ := hrel
      go_wp2
      go_ret
      exact ⟨by simp, h, World.grownBy.refl _ _⟩
  · have H := Lib.hid h
    have hgl : g < W.heap.size := (Array.getElem?_eq_some_iff.1 hg).1
    clear hg hcs htake h
    generalize hL : l.length = n at *
    have HL := Lib.hid hL
    clear hL
    go_enter Try.func84, Try.ntmps84
    go_wp2
    go_loopw [1, 5] (fun c i wr => ∃ j : Nat, j ≤ n ∧ i = .int .i64 j ∧ c = .int .i64 (k + j) ∧ wr.ownsRow base 3 1 (.slice (some ⟨g, 0, none⟩) n cap) n ((markTo l k j).map (Value.int .i64)) ∧ W.grownBy wr (some g)) (fun c i _ => n - (intOf i).toNat)
    case atStart =>
      have h2 := H.out
      unfold OwnInts at h2
      rw [HL.out] at h2
      exact ⟨0, Nat.zero_le _, rfl, by simp, by simpa [markTo, marks] using h2, World.grownBy.refl _ _⟩
    case round =>
      obtain ⟨j, hj, rfl, rfl, ho, hgr⟩ := hrel
      by_cases hlt : j < n
      · have hf := World.ownsRow.frozenAt ho j
        have hcd := (World.ownsRow.cellAt ho j (by omega))
        obtain ⟨u, hu⟩ : ∃ u, wr.cell? ⟨g, j, none⟩ = some u := by
          rw [hcd]
          exact ⟨_, List.getElem?_eq_getElem (by have := ho.1; omega)⟩
        clear hcd
        have HO := Lib.hid ho
        clear ho
        go_wp2
        go_roundw
        case rel =>
          have h2 := World.ownsRow.stored HO.out j (.int .i64 (k + j))
          have h3 := ownInts_set (k := j) (x := k + j) HO.out
          rw [markTo_succ (by have := HL.out; omega)] at h3
          exact ⟨j + 1, by omega, by go_num, by go_num, h3, hgr.trans h2.2⟩
        case measure => simp [intOf]; omega
      · obtain rfl : j = n := by omega
        go_wp2
        go_ret
        refine ⟨rfl, ?_, hgr⟩
        have h3 := ho
        rw [← HL.out, markTo_all, HL.out] at h3
        unfold OwnInts
        rw [marks_length]
        exact h3

set_option maxHeartbeats 1000000 in
theorem heldIntS_any (a : Option Addr) (n cap : Nat) (k : Int) (W : World) (h : IntsAt W a n (marks n k)) (hn : n ≤ 17592186044416) (hk0 : 0 ≤ k) (hk : k ≤ 1152921504606846976) :
    Calls Try.prog 85 #[.slice a n cap, .int .i64 k] W fun e w' => e = .returned (.int .i64 (k + n)) ∧ W = w' := by
  obtain ⟨_, hc⟩ := h
  have HC := Lib.hid hc
  clear hc
  go_enter Try.func85, Try.ntmps85
  go_wp2
  go_loop [1, 5] (fun c i => ∃ j : Nat, j ≤ n ∧ i = .int .i64 j ∧ c = .int .i64 (k + j)) (fun c i => n - (intOf i).toNat)
  case atStart => exact ⟨0, Nat.zero_le _, rfl, by simp⟩
  case round =>
    obtain ⟨j, hj, rfl, rfl⟩ := hrel
    by_cases hlt : j < n
    · obtain ⟨b, off, x, rfl, hbl, hx, hcell⟩ := HC.out j hlt
      rw [marks_get hlt] at hx
      obtain rfl := Option.some.inj hx
      clear hx
      go_wp2
      go_round
      case rel => exact ⟨j + 1, by omega, by go_num, by go_num⟩
      case measure => simp [intOf]; omega
    · obtain rfl : j = n := by omega
      go_wp2
      go_ret
      exact ⟨rfl, rfl⟩

theorem eqIntS_same (a a' : Option Addr) (n cap n' cap' : Nat) (l : List Int) (W : World) (h : IntsAt W a n l) (h' : IntsAt W a' n' l) (hn : n ≤ 17592186044416) :
    Calls Try.prog 81 #[.slice a n cap, .slice a' n' cap'] W fun e w' => e = .returned (.bool true) ∧ Below W.heap.size W w' :=
  (eqIntS_any a a' n cap n' cap' l l W h h' hn).mono fun _ _ ⟨he, m, hw⟩ => ⟨by rw [he]; simp, by rw [hw]; exact below_drewN (Below.refl _ _) _⟩

/-! ### The same, said of values: what a law's walk uses -/
def mkdInts (k : Int) (l : List Int) : List Int := marks l.length k
def cntInts (l : List Int) : Nat := l.length
theorem cntInts_le (l : List Int) : cntInts l ≤ l.length := Nat.le_refl _

theorem eqInts_h (W : World) (v v' : Value) (l : List Int) (h : IsInts W v l) (h' : IsInts W v' l) (hn : l.length ≤ 17592186044416) :
    Calls Try.prog 81 #[v, v'] W fun e w' => e = .returned (.bool true) ∧ Below W.heap.size W w' := by
  obtain ⟨a, cap, rfl, i⟩ := h
  obtain ⟨a', cap', rfl, i'⟩ := h'
  exact eqIntS_same _ _ _ _ _ _ _ _ i i' hn

theorem heldInts_h (W : World) (v : Value) (l : List Int) (k : Int) (h : IsInts W v (mkdInts k l)) (hn : cntInts l ≤ 17592186044416) (hk0 : 0 ≤ k) (hk : k ≤ 1152921504606846976) :
    Calls Try.prog 85 #[v, .int .i64 k] W fun e w' => e = .returned (.int .i64 (k + cntInts l)) ∧ Below W.heap.size W w' := by
  obtain ⟨a, cap, rfl, i⟩ := h
  unfold mkdInts at i ⊢
  rw [marks_length] at i ⊢
  exact (heldIntS_any _ _ _ _ _ i hn hk0 hk).mono fun _ _ ⟨he, hw⟩ => ⟨he, by rw [← hw]; exact Below.refl _ _⟩

theorem markInts_h (W : World) (lo hi : Nat) (v : Value) (l : List Int) (k : Int) (h : HInts W lo hi v l) (hn : cntInts l ≤ 17592186044416) (hk0 : 0 ≤ k) (hk : k ≤ 1152921504606846976) :
    Calls Try.prog 84 #[v, .int .i64 k] W fun e w' => e = .returned (.int .i64 (k + cntInts l)) ∧ HInts w' lo hi v (mkdInts k l) ∧ Kept (Blk lo hi) W w' :=
  (markIntS_any lo v l k W h.1 hn hk0 hk).mono fun _ _ ⟨he, ho, hg⟩ => ⟨he, ⟨ho, h.2⟩, (Kept.of_grown hg).mono fun j _ hj => ⟨(h.1.lt j hj.symm).1, h.2 j hj.symm⟩⟩

def OkInts (l : List Int) : Prop := l.length ≤ 9223372036854775807 ∧ ∀ x ∈ l, -9223372036854775808 ≤ x ∧ x ≤ 9223372036854775807
end Go.Proofs.Ytfdhbbhfilkafaa
