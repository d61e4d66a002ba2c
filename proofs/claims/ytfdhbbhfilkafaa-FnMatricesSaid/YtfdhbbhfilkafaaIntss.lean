/- The law's helpers on slices of slices of ints. No condition but sizes. -/
import Derived.Test.YtfdhbbhfilkafaaRows0
namespace Go.Proofs.Ytfdhbbhfilkafaa
open Go.RowKit
set_option maxRecDepth 100000
set_option linter.unusedVariables false
set_option linter.unusedSimpArgs false

def OkIntss (ll : List (List Int)) : Prop := ll.length ≤ 9223372036854775807 ∧ ∀ r ∈ ll, r.length ≤ 9223372036854775807 ∧ ∀ x ∈ r, -9223372036854775808 ≤ x ∧ x ≤ 9223372036854775807

theorem mem_set_sub {α : Type} {l : List α} {k : Nat} {x u : α} (h : u ∈ l.set k x) : u ∈ l ∨ u = x := by
  rcases List.mem_or_eq_of_mem_set h with h | h
  · exact .inl h
  · exact .inr h

set_option maxHeartbeats 2000000 in
theorem eqIntss_any (a a' : Option Addr) (n cap n' cap' : Nat) (l l' : List (List Int)) (W : World) (h : IntssAt W a n l) (h' : IntssAt W a' n' l') (hn : n ≤ 1048576) (hs : sumLen l ≤ 17592186044416) :
    Calls Try.prog 34 #[.slice a n cap, .slice a' n' cap'] W fun e w' => e = .returned (.bool (decide (l = l'))) ∧ Below W.heap.size W w' := by
  have hwd := @Wd.cells
  obtain ⟨hl, hc⟩ := h
  obtain ⟨hl', hc'⟩ := h'
  have HL := Lib.hid hl
  have HL' := Lib.hid hl'
  have HC := Lib.hid hc
  have HC' := Lib.hid hc'
  clear hl hc hl' hc'
  by_cases hnn : n = n'
  · subst hnn
    go_enter Try.func34, Try.ntmps34
    go_wp2
    go_loopw [5] (fun i wr => ∃ k : Nat, k ≤ n ∧ i = .int .i64 k ∧ Below W.heap.size W wr ∧ l.take k = l'.take k) (fun i _ => n - (intOf i).toNat)
    case atStart => exact ⟨0, Nat.zero_le _, rfl, Below.refl _ _, rfl⟩
    case round =>
      obtain ⟨k, hk, rfl, hb, hp⟩ := hrel
      have HP := Lib.hid hp
      clear hp
      by_cases hlt : k < n
      · obtain ⟨b, off, ar, cr, r, rfl, hbl, hx, hcell, hi⟩ := HC.out k hlt
        obtain ⟨b', off', ar', cr', r', rfl, hbl', hx', hcell', hi'⟩ := HC'.out k hlt
        have hrl := sumLen_mem hx
        have HX := Lib.hid hx
        have HX' := Lib.hid hx'
        have hcw : wr.cell? ⟨b, off + k, none⟩ = some (.slice ar r.length cr) := (hb.cell (p := ⟨b, off + k, none⟩) hbl).trans hcell
        have hcw' : wr.cell? ⟨b', off' + k, none⟩ = some (.slice ar' r'.length cr') := (hb.cell (p := ⟨b', off' + k, none⟩) hbl').trans hcell'
        have HI := Lib.hid (hi.below hb)
        have HI' := Lib.hid (hi'.below hb)
        clear hx hx' hcell hcell' hi hi'
        have hbz := hb.size
        have hbw : b < wr.heap.size := by omega
        have hbw' : b' < wr.heap.size := by omega
        have hcall : ∀ m : Wd wr, Calls Try.prog 81 #[.slice ar r.length cr, .slice ar' r'.length cr'] m.w fun e w'' => e = .returned (.bool (decide (r = r'))) ∧ ∃ m' : Wd wr, w'' = m'.w := fun m =>
          Calls.wd_of ((eqIntS_any _ _ _ _ _ _ _ _ _ (HI.out.below m.h) (HI'.out.below m.h) (by omega)).mono fun _ _ ⟨he, q, hw⟩ => ⟨he, by rw [hw]; exact below_drewN (Below.refl _ _) _⟩)
        have HCALL := Lib.hid hcall
        clear hcall
        by_cases hxx : r = r'
        · have HXX := Lib.hid hxx
          have hd : decide (r = r') = true := decide_eq_true hxx
          have hcall2 := HCALL.out
          rw [hd] at hcall2
          have HCALL2 := Lib.hid hcall2
          clear hxx hd hcall2 HCALL
          go_wp2
          refine wp_region_wd (by kernel_rfl) (by kernel_rfl) ?_
          repeat (go_big_quiet_step ((first | (go_at_call 81; exact HCALL2.out _))))
          refine wpQuiet_nil ?_
          intro n1
          have hn1 := n1.h
          go_wp2
          go_roundw
          case rel => exact ⟨k + 1, by omega, by go_num, hb.step n1.h, by rw [take_succ_of HX.out, take_succ_of HX'.out, HP.out, HXX.out]⟩
          case measure => simp [intOf]; omega
        · have HXX := Lib.hid hxx
          have hd : decide (r = r') = false := decide_eq_false hxx
          have hcall2 := HCALL.out
          rw [hd] at hcall2
          have HCALL2 := Lib.hid hcall2
          clear hxx hd hcall2 HCALL
          go_wp2
          refine wp_region_wd (by kernel_rfl) (by kernel_rfl) ?_
          repeat (go_big_quiet_step ((first | (go_at_call 81; exact HCALL2.out _))))
          refine wpQuiet_nil ?_
          intro n1
          have hn1 := n1.h
          go_wp2
          go_ret
          refine ⟨?_, hb.step n1.h⟩
          rw [show decide (l = l') = false from decide_eq_false fun e => HXX.out (Option.some.inj (by rw [← HX.out, ← HX'.out, e]))]
          try rfl
      · obtain rfl : k = n := by omega
        go_wp2
        go_ret
        have h1 := HP.out
        rw [List.take_of_length_le (by have := HL.out; omega), List.take_of_length_le (by have := HL'.out; omega)] at h1
        exact ⟨by simp [h1], hb⟩
  · have hne : (n != n') = true := by simpa using hnn
    have hne2 : ((n : Int) != (n' : Int)) = true := by simp; omega
    go_enter Try.func34, Try.ntmps34
    go_wp2
    go_ret
    refine ⟨?_, Below.refl _ _⟩
    rw [show decide (l = l') = false from decide_eq_false fun e => hnn (by rw [← HL.out, ← HL'.out, e])]
    try rfl

set_option maxHeartbeats 2000000 in
theorem markIntss_any (base : Nat) (v : Value) (vs : List Value) (ll : List (List Int)) (k : Int) (W : World) (h : W.ownsRow base 35 1 v ll.length vs) (hr : IRows W base vs ll) (hn : ll.length ≤ 1099511627776) (hs : sumLen ll ≤ 1099511627776) (hk0 : 0 ≤ k) (hk : k ≤ 1099511627776) :
    Calls Try.prog 37 #[v, .int .i64 k] W fun e w' => e = .returned (.int .i64 (k + sumLen ll)) ∧ (w'.ownsRow base 35 1 v ll.length vs ∧ IRows w' base vs (mkdIntss k ll)) ∧ Kept (fun g => ∃ u ∈ vs, some g = u.ownBlock) W w' := by
  have hform := (show OwnIntss W base v ll from ⟨vs, h, hr⟩).form
  obtain ⟨a, cap, rfl, hat⟩ := hform
  clear hat
  have H := Lib.hid h
  have HRR := Lib.hid hr
  clear h hr
  generalize hL : ll.length = n at *
  have HL := Lib.hid hL
  clear hL
  go_enter Try.func37, Try.ntmps37
  go_wp2
  go_loopw [1, 5] (fun c i wr => ∃ j : Nat, j ≤ n ∧ i = .int .i64 j ∧ c = .int .i64 (k + sumLen (ll.take j)) ∧ (wr.ownsRow base 35 1 (.slice a n cap) n vs ∧ IRows wr base vs (mkTo k ll j)) ∧ Kept (fun g => ∃ u ∈ vs, some g = u.ownBlock) W wr) (fun c i _ => n - (intOf i).toNat)
  case atStart => exact ⟨0, Nat.zero_le _, rfl, by simp [sumLen], ⟨H.out, by rw [mkTo_zero]; exact HRR.out⟩, Kept.refl _ _⟩
  case round =>
    obtain ⟨j, hj, rfl, rfl, ⟨ho, hr⟩, hkp⟩ := hrel
    have hsj := sumLen_take_le ll j
    by_cases hlt : j < n
    · obtain ⟨r, hx⟩ : ∃ r, ll[j]? = some r := ⟨_, List.getElem?_eq_getElem (by have := HL.out; omega)⟩
      have hrl := sumLen_mem hx
      obtain ⟨u, r', hu, hr', hou⟩ := hr.get (k := j) (by rw [mkTo_length (by have := HL.out; omega), HL.out]; exact hlt)
      rw [mkTo_get hx] at hr'
      obtain rfl := Option.some.inj hr'
      clear hr'
      have HU := Lib.hid hu
      have HX := Lib.hid hx
      have HO := Lib.hid ho
      have HR := Lib.hid hr
      have HOU := Lib.hid hou
      -- the header's cell
      have hat := (show OwnIntss wr base (.slice a n cap) (mkTo k ll j) from ⟨vs, by rw [mkTo_length (by have := HL.out; omega), HL.out]; exact ho, hr⟩)
      obtain ⟨g, rfl⟩ : ∃ g, a = some ⟨g, 0, none⟩ := by
        rcases ho.2 with ⟨h1, h2⟩ | ⟨g, cap', cur, h1, _⟩
        · omega
        · simp at h1
          exact ⟨g, h1.1⟩
      have hcell := World.ownsRow.cellAt ho j (by omega)
      rw [hu] at hcell
      clear hu hx ho hr hou hat
      go_wp2_with fail
      refine (markIntS_any base u r _ _ HOU.out (by omega) (by omega) (by omega)).mono ?_
      rintro e w2 ⟨rfl, hom, hgm⟩
      have HOM := Lib.hid hom
      have hkm := Kept.of_grown hgm
      clear hom hgm
      go_wp2_with fail
      go_roundw
      case rel =>
        have hmem : u ∈ vs := List.mem_of_getElem? HU.out
        have h5 := HR.out.wrote HU.out hkm HOM.out
        rw [mkTo_succ HX.out] at h5
        exact ⟨j + 1, by omega, by go_num, by rw [take_succ_of HX.out, sumLen_snoc]; go_num, ⟨outer_row HO.out HOU.out hkm, h5⟩, hkp.trans (hkm.mono fun g _ hg => ⟨u, hmem, hg⟩)⟩
      case measure => simp [intOf]; omega
    · obtain rfl : j = n := by omega
      go_wp2
      go_ret
      have h3 := HL.out
      rw [List.take_of_length_le (by omega)]
      have h4 := hr
      rw [← h3, mkTo_all] at h4
      exact ⟨rfl, ⟨ho, h4⟩, hkp⟩

theorem markIntss_h (W : World) (lo hi : Nat) (v : Value) (ll : List (List Int)) (k : Int) (h : HIntss W lo hi v ll) (hsz : szIntss ll ≤ 1099511627776) (hk0 : 0 ≤ k) (hk : k ≤ 1099511627776) :
    Calls Try.prog 37 #[v, .int .i64 k] W fun e w' => e = .returned (.int .i64 (k + cntIntss ll)) ∧ HIntss w' lo hi v (mkdIntss k ll) ∧ Kept (Blk lo hi) W w' := by
  have hn : ll.length ≤ 1099511627776 := Nat.le_trans (Nat.le_add_right _ _) hsz
  have hs : sumLen ll ≤ 1099511627776 := Nat.le_trans (Nat.le_add_left _ _) hsz
  obtain ⟨vs, ho, hr, h1, h2⟩ := h
  refine (markIntss_any lo v vs ll k W ho hr hn hs hk0 hk).mono fun e w' ⟨he, ⟨hp, hq⟩, hkp⟩ => ⟨he, ⟨vs, by rw [mkdIntss_length]; exact hp, hq, h1, h2⟩, hkp.mono fun g _ hg => ?_⟩
  obtain ⟨u, hu, hgu⟩ := hg
  exact ⟨(hr.lt u hu g hgu.symm).1, h2 u hu g hgu.symm⟩

set_option maxHeartbeats 2000000 in
theorem heldIntss_any (a : Option Addr) (n cap : Nat) (ll : List (List Int)) (k : Int) (W : World) (h : IntssAt W a n (mkdIntss k ll)) (hl : ll.length = n) (hn : n ≤ 1099511627776) (hs : sumLen ll ≤ 1099511627776) (hk0 : 0 ≤ k) (hk : k ≤ 1099511627776) :
    Calls Try.prog 38 #[.slice a n cap, .int .i64 k] W fun e w' => e = .returned (.int .i64 (k + sumLen ll)) ∧ W = w' := by
  have HL := Lib.hid hl
  have HC := Lib.hid h.2
  clear h hl
  go_enter Try.func38, Try.ntmps38
  go_wp2
  go_loop [1, 5] (fun c i => ∃ j : Nat, j ≤ n ∧ i = .int .i64 j ∧ c = .int .i64 (k + sumLen (ll.take j))) (fun c i => n - (intOf i).toNat)
  case atStart => exact ⟨0, Nat.zero_le _, rfl, by simp [sumLen]⟩
  case round =>
    obtain ⟨j, hj, rfl, rfl⟩ := hrel
    have hsj := sumLen_take_le ll j
    by_cases hlt : j < n
    · obtain ⟨r, hx⟩ : ∃ r, ll[j]? = some r := ⟨_, List.getElem?_eq_getElem (by have := HL.out; omega)⟩
      have hrl := sumLen_mem hx
      obtain ⟨b, off, ar, cr, r', rfl, hbl, hr', hcell, hi⟩ := HC.out j hlt
      rw [mkdIntss_get hx] at hr'
      obtain rfl := Option.some.inj hr'
      rw [marks_length] at hi hcell
      have HX := Lib.hid hx
      have HI := Lib.hid hi
      clear hx hi hr'
      go_wp2_with fail
      refine (heldIntS_any _ _ _ _ _ HI.out (by omega) (by omega) (by omega)).mono ?_
      rintro e w' ⟨rfl, rfl⟩
      go_wp2_with fail
      go_round
      case rel => exact ⟨j + 1, by omega, by go_num, by rw [take_succ_of HX.out, sumLen_snoc]; go_num⟩
      case measure => simp [intOf]; omega
    · obtain rfl : j = n := by omega
      go_wp2
      go_ret
      have h3 := HL.out
      rw [List.take_of_length_le (by omega)]
      exact ⟨rfl, rfl⟩
theorem heldIntss_h (W : World) (v : Value) (ll : List (List Int)) (k : Int) (h : IsIntss W v (mkdIntss k ll)) (hsz : szIntss ll ≤ 1099511627776) (hk0 : 0 ≤ k) (hk : k ≤ 1099511627776) :
    Calls Try.prog 38 #[v, .int .i64 k] W fun e w' => e = .returned (.int .i64 (k + cntIntss ll)) ∧ Below W.heap.size W w' := by
  have hn : ll.length ≤ 1099511627776 := Nat.le_trans (Nat.le_add_right _ _) hsz
  have hs : sumLen ll ≤ 1099511627776 := Nat.le_trans (Nat.le_add_left _ _) hsz
  obtain ⟨a, cap, rfl, i⟩ := h
  rw [mkdIntss_length] at i ⊢
  exact (heldIntss_any _ _ _ _ _ _ i rfl hn hs hk0 hk).mono fun _ _ ⟨he, hw⟩ => ⟨he, by rw [← hw]; exact Below.refl _ _⟩
theorem eqIntss_h (W : World) (v v' : Value) (ll : List (List Int)) (h : IsIntss W v ll) (h' : IsIntss W v' ll) (hn : szIntss ll ≤ 1048576) :
    Calls Try.prog 34 #[v, v'] W fun e w' => e = .returned (.bool true) ∧ Below W.heap.size W w' := by
  obtain ⟨a, cap, rfl, i⟩ := h
  obtain ⟨a', cap', rfl, i'⟩ := h'
  unfold szIntss at hn
  exact (eqIntss_any _ _ _ _ _ _ _ _ _ i i' (by omega) (by omega)).mono fun _ _ ⟨he, hb⟩ => ⟨by rw [he]; simp, hb⟩
end Go.Proofs.Ytfdhbbhfilkafaa
