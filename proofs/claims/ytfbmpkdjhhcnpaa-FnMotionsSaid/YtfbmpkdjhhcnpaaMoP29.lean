/- IsMotion of the reference and of the program. -/
import Derived.Test.YtfbmpkdjhhcnpaaMoP28
import Derived.Test.YtfbmpkdjhhcnpaaMoP02
import Derived.Test.YtfbmpkdjhhcnpaaMoP04
import Derived.Deep.RegionLaw
import Derived.Maps.AppendAt
import Derived.Test.YtfbmpkdjhhcnpaaMoP27
import Derived.Test.YtfbmpkdjhhcnpaaMoP12
import Derived.Test.YtfbmpkdjhhcnpaaMoP24
import Derived.Deep.RegionHeld3
import Derived.IntWalk
import Derived.BigRegion
import Derived.Deep.QuietTactic
import Derived.BigQuiet
namespace Go.Proofs.Ytfbmpkdjhhcnpaa
open Go.RowKit
set_option maxRecDepth 100000
set_option linter.unusedVariables false
set_option linter.unusedSimpArgs false

def motOk (f : FwT) (v : List Int) (x : BarT) : Bool := changeF f v x.1 x.2 == 0
def motB (f : FwT) (v : List Int) : Bool := velB f v && f.2.1.all (motOk f v)
theorem motB_bar {p : Int} {l : List BarT} {q : List PlaceT} {v : List Int} {k : Nat} {x : BarT} (hx : l[k]? = some x) (h : motOk (p, l, q) v x = false) : motB (p, l, q) v = false := by
  have : l.all (motOk (p, l, q) v) = false := List.all_eq_false.2 ⟨_, List.mem_of_getElem? hx, by simp [h]⟩
  simp only [motB, this, Bool.and_false]

set_option maxHeartbeats 8000000 in
theorem specMot_at (W : World) (p : Int) (a : Option Addr) (cap : Nat) (l : List BarT) (c : Option Addr) (capc : Nat) (q : List PlaceT) (h : BarsAt W a l.length l) (hq : PlacesAt W c q.length q) (hs : l.length + q.length ≤ 1048576)
    (va : Option Addr) (n vcap : Nat) (v : List Int) (hv : IntsAt W va n v) (hvn : n ≤ 1099511627776) :
    Calls Try.prog 26 #[.agg #[.int .i64 p, .slice a l.length cap, .slice c q.length capc], .slice va n vcap] W fun e w' => e = .returned (.bool (motB (p, l, q) v)) ∧ Below W.heap.size W w' := by
  have hwd := @Wd.cells
  have H1 := Lib.hid h
  have H2 := Lib.hid hq
  have HV := Lib.hid hv
  clear h hq hv
  have hs1 : l.length ≤ 1048576 := by omega
  have hs2 : q.length ≤ 1048576 := by omega
  have B : Below W.heap.size W (W.alloc (.cells #[.int .i64 p, .slice a l.length cap, .slice c q.length capc] 29)) := (Below.refl _ _).alloc (Nat.le_refl _) _
  have BX : Hid (BoxFw (W.alloc (.cells #[.int .i64 p, .slice a l.length cap, .slice c q.length capc] 29)) W.heap.size p a l.length cap c q.length capc) := Lib.hid (BoxFw.at rfl)
  cases hf : velB (p, l, q) v
  · have HE := Lib.hid (ret_bool (show motB (p, l, q) v = false by simp only [motB, hf, Bool.false_and]))
    go_enter Try.func26, Try.ntmps26
    go_wp2_with fail
    generalize (W.alloc (.cells #[.int .i64 p, .slice a l.length cap, .slice c q.length capc] 29)) = u at *
    go_loopw [5] (fun i w9 => i = .int .i64 0 ∧ u = w9) (fun _ _ => 0)
    case atStart => exact ⟨rfl, rfl⟩
    case round =>
      obtain ⟨rfl, rfl⟩ := hrel
      obtain ⟨z, f0, f1, f2⟩ := BX.out
      by_cases h0 : 0 < l.length
      · have h0i : (0 : Int) < (l.length : Int) := by omega
        go_wp2_with fail
        refine (l12Vector_at _ _ _ _ _ _ _ _ (H1.out.below B) (H2.out.below B) hs1 hs2 hs _ _ _ _ (HV.out.below B) hvn).mono ?_
        rintro e w1 ⟨rfl, b⟩
        replace B := B.step b
        clear z f0 f1 f2
        replace BX := Lib.hid (BX.out.below b)
        clear b
        obtain ⟨z, f0, f1, f2⟩ := BX.out
        rw [hf]
        go_wp2_with fail
        refine (l12Vector_at _ _ _ _ _ _ _ _ (H1.out.below B) (H2.out.below B) hs1 hs2 hs _ _ _ _ (HV.out.below B) hvn).mono ?_
        rintro e w2 ⟨rfl, b⟩
        replace B := B.step b
        clear b
        rw [hf]
        go_wp2_with fail
        go_ret
        exact ⟨HE.out.symm, B⟩
      · go_wp2_with fail
        refine (l12Vector_at _ _ _ _ _ _ _ _ (H1.out.below B) (H2.out.below B) hs1 hs2 hs _ _ _ _ (HV.out.below B) hvn).mono ?_
        rintro e w2 ⟨rfl, b⟩
        replace B := B.step b
        clear b
        rw [hf]
        go_wp2_with fail
        go_ret
        exact ⟨HE.out.symm, B⟩
  have HF := Lib.hid hf
  go_enter Try.func26, Try.ntmps26
  go_wp2_with fail
  generalize (W.alloc (.cells #[.int .i64 p, .slice a l.length cap, .slice c q.length capc] 29)) = u at *
  go_loopw [5] (fun i w9 => ∃ k : Nat, k ≤ l.length ∧ i = .int .i64 k ∧ (l.take k).all (motOk (p, l, q) v) = true ∧ Below u.heap.size u w9) (fun i _ => l.length - (intOf i).toNat)
  case atStart => exact ⟨0, Nat.zero_le _, rfl, by simp, Below.refl _ _⟩
  case round =>
    obtain ⟨k, hk, rfl, hall, hb⟩ := hrel
    have HA := Lib.hid hall
    clear hall
    have B1 := B.step hb
    have BX1 := Lib.hid (BX.out.below hb)
    obtain ⟨z, f0, f1, f2⟩ := BX1.out
    by_cases hlt : k < l.length
    · go_wp2_with fail
      refine (l12Vector_at _ _ _ _ _ _ _ _ (H1.out.below B1) (H2.out.below B1) hs1 hs2 hs _ _ _ _ (HV.out.below B1) hvn).mono ?_
      rintro e w1 ⟨rfl, b⟩
      have B2 := B1.step b
      have hb2 := hb.step b
      clear z f0 f1 f2
      have BX2 := Lib.hid (BX1.out.below b)
      clear b
      obtain ⟨z, f0, f1, f2⟩ := BX2.out
      obtain ⟨bb, off, ⟨x1, x2⟩, rfl, hbl, hx, hc0, hc1⟩ := (H1.out.below B2).2 k hlt
      dsimp only at hc0 hc1
      have HX := Lib.hid hx
      clear hx
      have z1 : W.heap.size ≤ w1.heap.size := by omega
      have z2 : W.heap.size < w1.heap.size + 1 := by omega
      have z3 : bb ≤ w1.heap.size := by omega
      have z4 : bb < w1.heap.size + 1 := by omega
      rw [hf]
      cases hc : motOk (p, l, q) v (x1, x2)
      · have HE := Lib.hid (ret_bool (motB_bar HX.out hc))
        have hne : (changeF (p, l, q) v x1 x2 != 0) = true := by simpa [motOk] using hc
        go_wp2_with fail
        refine wp_region_wd (by kernel_rfl) (by kernel_rfl) ?_
        repeat (go_big_quiet_step ((first | (go_at_call 25; exact Calls.wd_of (specChange_at _ _ _ _ _ _ _ _ (H1.out.below (B2.step (Wd.h _))) (H2.out.below (B2.step (Wd.h _))) hs _ _ _ _ (HV.out.below (B2.step (Wd.h _))) hvn _ _)))))
        refine wpQuiet_nil ?_
        intro n1
        have B3 := B2.step n1.h
        go_wp2_with fail
        go_ret
        exact ⟨HE.out.symm, B3⟩
      · have hne : (changeF (p, l, q) v x1 x2 != 0) = false := by simpa [motOk] using hc
        have HC := Lib.hid hc
        go_wp2_with fail
        refine wp_region_wd (by kernel_rfl) (by kernel_rfl) ?_
        repeat (go_big_quiet_step ((first | (go_at_call 25; exact Calls.wd_of (specChange_at _ _ _ _ _ _ _ _ (H1.out.below (B2.step (Wd.h _))) (H2.out.below (B2.step (Wd.h _))) hs _ _ _ _ (HV.out.below (B2.step (Wd.h _))) hvn _ _)))))
        refine wpQuiet_nil ?_
        intro n1
        have hb3 := hb2.step n1.h
        go_wp2_with fail
        go_roundw
        case rel => exact ⟨k + 1, by omega, by go_num, all_take_succ HX.out HA.out HC.out, hb3⟩
        case measure => simp [intOf]; omega
    · obtain rfl : k = l.length := by omega
      have HE := Lib.hid (ret_bool (show motB (p, l, q) v = true by have h1 := HA.out; rw [List.take_length] at h1; simp only [motB, HF.out, h1, Bool.and_self]))
      go_wp2_with fail
      refine (l12Vector_at _ _ _ _ _ _ _ _ (H1.out.below B1) (H2.out.below B1) hs1 hs2 hs _ _ _ _ (HV.out.below B1) hvn).mono ?_
      rintro e w1 ⟨rfl, b⟩
      have B2 := B1.step b
      clear b
      rw [hf]
      go_wp2_with fail
      go_ret
      exact ⟨HE.out.symm, B2⟩
end Go.Proofs.Ytfbmpkdjhhcnpaa

namespace Go.Proofs.Ytfbmpkdjhhcnpaa
open Go.RowKit
set_option maxRecDepth 100000
set_option linter.unusedVariables false
set_option linter.unusedSimpArgs false

set_option maxHeartbeats 8000000 in
theorem implMot_at (W : World) (p : Int) (a : Option Addr) (cap : Nat) (l : List BarT) (c : Option Addr) (capc : Nat) (q : List PlaceT) (h : BarsAt W a l.length l) (hq : PlacesAt W c q.length q) (hs : l.length + q.length ≤ 1048576)
    (va : Option Addr) (n vcap : Nat) (v : List Int) (hv : IntsAt W va n v) (hvn : n ≤ 1099511627776) :
    Calls Try.prog 11 #[.agg #[.int .i64 p, .slice a l.length cap, .slice c q.length capc], .slice va n vcap] W fun e w' => e = .returned (.bool (motB (p, l, q) v)) ∧ Below W.heap.size W w' := by
  have hwd := @Wd.cells
  have H1 := Lib.hid h
  have H2 := Lib.hid hq
  have HV := Lib.hid hv
  clear h hq hv
  have hs1 : l.length ≤ 1048576 := by omega
  have hs2 : q.length ≤ 1048576 := by omega
  have B : Below W.heap.size W (W.alloc (.cells #[.int .i64 p, .slice a l.length cap, .slice c q.length capc] 29)) := (Below.refl _ _).alloc (Nat.le_refl _) _
  have BX : Hid (BoxFw (W.alloc (.cells #[.int .i64 p, .slice a l.length cap, .slice c q.length capc] 29)) W.heap.size p a l.length cap c q.length capc) := Lib.hid (BoxFw.at rfl)
  cases hf : velB (p, l, q) v
  · have HE := Lib.hid (ret_bool (show motB (p, l, q) v = false by simp only [motB, hf, Bool.false_and]))
    go_enter Try.func11, Try.ntmps11
    go_wp2_with fail
    refine (isVelocity_at _ _ _ _ _ _ _ _ (H1.out.below B) (H2.out.below B) hs1 hs2 hs _ _ _ _ (HV.out.below B) hvn).mono ?_
    rintro e w1 ⟨rfl, b⟩
    replace B := B.step b
    clear b
    rw [hf]
    go_wp2_with fail
    go_ret
    exact ⟨HE.out.symm, B⟩
  have HF := Lib.hid hf
  go_enter Try.func11, Try.ntmps11
  go_wp2_with fail
  refine (isVelocity_at _ _ _ _ _ _ _ _ (H1.out.below B) (H2.out.below B) hs1 hs2 hs _ _ _ _ (HV.out.below B) hvn).mono ?_
  rintro e u ⟨rfl, b⟩
  replace B := B.step b
  replace BX := Lib.hid (BX.out.below b)
  clear b
  rw [hf]
  obtain ⟨z, f0, f1, f2⟩ := BX.out
  go_wp2_with fail
  clear z f0 f1 f2
  go_loopw [15] (fun i w9 => ∃ k : Nat, k ≤ l.length ∧ i = .int .i64 k ∧ (l.take k).all (motOk (p, l, q) v) = true ∧ Below u.heap.size u w9) (fun i _ => l.length - (intOf i).toNat)
  case atStart => exact ⟨0, Nat.zero_le _, rfl, by simp, Below.refl _ _⟩
  case round =>
    obtain ⟨k, hk, rfl, hall, hb⟩ := hrel
    have HA := Lib.hid hall
    clear hall
    have B1 := B.step hb
    have BX1 := Lib.hid (BX.out.below hb)
    obtain ⟨z, f0, f1, f2⟩ := BX1.out
    by_cases hlt : k < l.length
    · obtain ⟨bb, off, ⟨x1, x2⟩, rfl, hbl, hx, hc0, hc1⟩ := (H1.out.below B1).2 k hlt
      dsimp only at hc0 hc1
      have HX := Lib.hid hx
      clear hx
      have z1 : W.heap.size ≤ wr.heap.size := by omega
      have z2 : W.heap.size < wr.heap.size + 1 := by omega
      have z3 : bb ≤ wr.heap.size := by omega
      have z4 : bb < wr.heap.size + 1 := by omega
      have ba : ∀ o, Below wr.heap.size wr (wr.alloc o) := fun o => (Below.refl _ _).alloc (Nat.le_refl _) o
      cases hc : motOk (p, l, q) v (x1, x2)
      · have HE := Lib.hid (ret_bool (motB_bar HX.out hc))
        have hne : (changeF (p, l, q) v x1 x2 != 0) = true := by simpa [motOk] using hc
        clear hc
        go_wp2_with fail
        refine (implChange_at _ _ _ _ _ _ _ _ (H1.out.below (B1.step (ba _))) (H2.out.below (B1.step (ba _))) hs _ _ _ _ (HV.out.below (B1.step (ba _))) hvn _ _).mono ?_
        rintro e w3 ⟨rfl, b⟩
        have B3 := (B1.step (ba _)).step b
        clear b
        go_wp2_with fail
        go_ret
        exact ⟨HE.out.symm, B3⟩
      · have hne : (changeF (p, l, q) v x1 x2 != 0) = false := by simpa [motOk] using hc
        have HC := Lib.hid hc
        clear hc
        go_wp2_with fail
        refine (implChange_at _ _ _ _ _ _ _ _ (H1.out.below (B1.step (ba _))) (H2.out.below (B1.step (ba _))) hs _ _ _ _ (HV.out.below (B1.step (ba _))) hvn _ _).mono ?_
        rintro e w3 ⟨rfl, b⟩
        have hb3 := (hb.step (ba _)).step b
        clear b
        go_wp2_with fail
        go_roundw
        case rel => exact ⟨k + 1, by omega, by go_num, all_take_succ HX.out HA.out HC.out, hb3⟩
        case measure => simp [intOf]; omega
    · obtain rfl : k = l.length := by omega
      have HE := Lib.hid (ret_bool (show motB (p, l, q) v = true by have h1 := HA.out; rw [List.take_length] at h1; simp only [motB, HF.out, h1, Bool.and_self]))
      go_wp2_with fail
      go_ret
      exact ⟨HE.out.symm, B1⟩

theorem spec_IsMotion (W : World) (v0 : Value) (f : FwT) (h : IsFw W v0 f) (v1 : Value) (v : List Int) (hv : IsInts W v1 v) (hn : szFw f ≤ 1048576) (hvn : v.length ≤ 1048576) :
    Calls Try.prog 26 #[v0, v1] W fun e w' => e = .returned (.bool (motB f v)) ∧ Below W.heap.size W w' := by
  obtain ⟨p, l, q⟩ := f
  obtain ⟨a, cap, c, capc, rfl, hi, hj⟩ := h
  obtain ⟨va, vc, rfl, hvi⟩ := hv
  exact specMot_at _ _ _ _ _ _ _ _ hi hj hn _ _ _ _ hvi (by omega)
theorem impl_IsMotion (W : World) (v0 : Value) (f : FwT) (h : IsFw W v0 f) (v1 : Value) (v : List Int) (hv : IsInts W v1 v) (hn : szFw f ≤ 1048576) (hvn : v.length ≤ 1048576) :
    Calls Try.prog 11 #[v0, v1] W fun e w' => e = .returned (.bool (motB f v)) ∧ Below W.heap.size W w' := by
  obtain ⟨p, l, q⟩ := f
  obtain ⟨a, cap, c, capc, rfl, hi, hj⟩ := h
  obtain ⟨va, vc, rfl, hvi⟩ := hv
  exact implMot_at _ _ _ _ _ _ _ _ hi hj hn _ _ _ _ hvi (by omega)
end Go.Proofs.Ytfbmpkdjhhcnpaa

namespace Go.Proofs.Ytfbmpkdjhhcnpaa
open Go.RowKit
set_option maxRecDepth 100000
set_option linter.unusedVariables false
set_option linter.unusedSimpArgs false

theorem two_src {w : World} {g : Nat} {y z : Int} (hc0 : w.cell? ⟨g, 0, none⟩ = some (.int .i64 y)) (hc1 : w.cell? ⟨g, 1, none⟩ = some (.int .i64 z)) : ∀ (j : Nat) u, ([.int .i64 y, .int .i64 z] : List Value)[j]? = some u → ∃ b off, (some (⟨g, 0, none⟩ : Addr)) = some ⟨b, off, none⟩ ∧ w.cell? ⟨b, off + j, none⟩ = some u := by
  intro j u hu
  have hj : j < 2 := by have := lt_of_getElem? hu; simpa using this
  obtain rfl | rfl : j = 0 ∨ j = 1 := by omega
  · simp at hu; subst hu; exact ⟨g, 0, rfl, hc0⟩
  · simp at hu; subst hu; exact ⟨g, 0, rfl, hc1⟩
/-- append of two ints, as one step of a region that draws its order -/
theorem stepInts2 {w : World} {ops : Array Oper} {o : Oper} {a : Act} {K : Act → World → Prop} {Q : Exit → Act → World → Prop} {E : Prop} (hg : o.guard = none) (s x : Operand)
    (ho : o.op = .call { callee := .builtin .append, args := #[s, x], argTypes := #[35, 35] }) {base : Nat} {v : Value} {l : List Int} (hs : a.eval s = v) (hown : OwnInts w base v l)
    (y z : Int) (g : Nat) (hx : a.eval x = .slice (some ⟨g, 0, none⟩) 2 2) (hc0 : w.cell? ⟨g, 0, none⟩ = some (.int .i64 y)) (hc1 : w.cell? ⟨g, 1, none⟩ = some (.int .i64 z)) (hl : l.length < 1099511627776) (hbase : base ≤ w.heap.size)
    (hK : ∀ v' w', OwnInts w' base v' (l ++ [y, z]) → Kept (fun k => some k = v.ownBlock) w w' → (v'.ownBlock = v.ownBlock ∨ ∀ b, v'.ownBlock = some b → w.heap.size ≤ b) → K (a.put o.dst v') w') :
    if Region.wanted o (yielded ops a.tmps) = true then Oper.wp Try.prog o a w K Q else E := by
  obtain ⟨i0, hi, hz0, hz1, hz2⟩ := info_parts infoInt
  refine step_append_whole _ hg s x 35 ho base 3 i0 _ 1 8 Try.underlying35 hi hz0 hz1 hz2 rfl (by decide) v l.length (l.map (Value.int .i64)) hs hown (some ⟨g, 0, none⟩) 2 2 [.int .i64 y, .int .i64 z] hx rfl (two_src hc0 hc1) (by intro u hu; simp at hu; rcases hu with rfl | rfl <;> rfl) (by unfold maxLen; omega) (by omega) hbase ?_
  intro v' w' h1 h2 h3
  refine hK v' w' ?_ (Kept.of_grown h2) (h3.imp id fun h b hb => by rw [h] at hb; exact Nat.le_of_eq (Option.some.inj hb))
  unfold OwnInts
  rw [List.length_append, List.map_append]
  exact h1
/-- .. at a list of operations, and where the slice then lies -/
theorem app2At {w : World} {ops : Array Oper} {rest : List Oper} {o : Oper} {a : Act} {Q : Exit → Act → World → Prop} (hg : o.guard = none) (s x : Operand)
    (ho : o.op = .call { callee := .builtin .append, args := #[s, x], argTypes := #[35, 35] }) {base : Nat} {v : Value} {l : List Int} (hs : a.eval s = v) (hown : OwnInts w base v l) (y z : Int)
    (hx : a.eval x = .slice (some ⟨w.heap.size, 0, none⟩) 2 2) (hl : l.length < 1099511627776) (hbase : base ≤ w.heap.size)
    (hK : ∀ v' w', OwnInts w' base v' (l ++ [y, z]) → Kept (fun k => some k = v.ownBlock) w w' → (v'.ownBlock = v.ownBlock ∨ ∀ b, v'.ownBlock = some b → w.heap.size ≤ b) → wpList Try.prog ops Q rest (a.put o.dst v') w') :
    wpList Try.prog ops Q (o :: rest) a (w.alloc (.cells #[.int .i64 y, .int .i64 z] 3)) := by
  obtain ⟨i0, hi, hz0, hz1, hz2⟩ := info_parts infoInt
  refine wpList_append_whole _ hg s x 35 ho base 3 i0 (.int .i64 0) 1 8 Try.underlying35 hi hz0 hz1 hz2 rfl (by decide) v l.length (l.map (Value.int .i64)) hs (World.ownsRow.alloc hown _) (some ⟨w.heap.size, 0, none⟩) 2 2 [.int .i64 y, .int .i64 z] hx rfl (two_src (by simp [World.cell?_alloc_new]) (by simp [World.cell?_alloc_new])) (by intro u hu; simp at hu; rcases hu with rfl | rfl <;> rfl) (by unfold maxLen; omega) (by omega) (by simp; omega) ?_
  intro v' w' h1 h2 h3
  refine hK v' w' (by unfold OwnInts; simpa using h1) ((Kept.of_below ((Below.refl _ _).alloc (Nat.le_refl _) _)).trans ⟨h2.os, h2.tape, h2.output, h2.size, fun k hk hs => h2.block k hk hs⟩) ?_
  rcases h3 with h3 | h3
  · exact .inl h3
  · right
    intro b hb
    rw [h3] at hb
    simp at hb
    omega
theorem IRows.own1 {W : World} {base : Nat} {v : Value} {r : List Int} (h : OwnInts W base v r) : IRows W base [v] [r] := by
  have := (IRows.nil W base).snoc h (fun u hu => by simp at hu)
  simpa using this
/-- append of rows to an empty slice without room: all lies anew -/
theorem appRowsNew {w : World} {ops : Array Oper} {rest : List Oper} {o : Oper} {a : Act} {Q : Exit → Act → World → Prop} (hg : o.guard = none) (s x : Operand)
    (ho : o.op = .call { callee := .builtin .append, args := #[s, x], argTypes := #[31, 31] }) (g : Nat) (hs : a.eval s = .slice (some ⟨g, 0, none⟩) 0 0) {base n : Nat} {vs : List Value} {ll : List (List Int)} (hu : IRows w base vs ll) (hn : vs.length = n) (hn0 : 0 < n) (hn1 : n ≤ 1000)
    (hx : a.eval x = .slice (some ⟨w.heap.size, 0, none⟩) n n) (hbase : base ≤ w.heap.size)
    (hK : ∀ v' w', OwnIntss w' base v' ll → Below w.heap.size w w' → wpList Try.prog ops Q rest (a.put o.dst v') w') :
    wpList Try.prog ops Q (o :: rest) a (w.alloc (.cells vs.toArray 35)) := by
  obtain ⟨i0, hi, hz0, hz1, hz2⟩ := info_parts infoInts
  have h1c : ∀ (j : Nat) q, vs[j]? = some q → (w.alloc (.cells vs.toArray 35)).cell? ((⟨w.heap.size, 0, none⟩ : Addr).add j) = some q := fun j q hq => by
    rw [Addr.add_lit]
    simp [World.cell?_alloc_new, hq]
  refine wpList_plain hg fun K hK' => ?_
  obtain ⟨v', w', hrun, r1, r2⟩ := run_append_arg_grows (P := Try.prog) (w.alloc (.cells vs.toArray 35)) 31 o.type 35 i0 (.slice none 0 0) 1 24 Try.underlying31 hi hz0 hz1 hz2 rfl (by decide) ⟨g, 0, none⟩ 0 0 [] rfl (by intro j q hq; simp at hq) ⟨w.heap.size, 0, none⟩ n n vs (by rw [hn, Nat.mul_one]) h1c (by omega) (by unfold maxLen; omega) (by omega)
  unfold Oper.wp execOp
  simp only [ho, resolve, invoke, builtin, Sem.run_bind, Sem.run_pure, Result.andThen_ok, List.map_toArray, List.map_cons, List.map_nil, hs, hx, hrun]
  have hb : Below w.heap.size w w' := ((Below.refl _ w).alloc (Nat.le_refl _) (.cells vs.toArray 35)).trans ((Below.of_grown_none r2).mono (by simp))
  refine hK' _ _ (hK v' w' ⟨vs, ?_, hu.below hb⟩ hb)
  have hl : ll.length = n := by rw [← hu.len, hn]
  rw [hl]
  have h3 := ownsRow_base r1 (show base ≤ _ by rw [World.size_alloc]; omega)
  simpa using h3
end Go.Proofs.Ytfbmpkdjhhcnpaa

namespace Go.Proofs.Ytfbmpkdjhhcnpaa
open Go.RowKit Gr
set_option maxRecDepth 100000
set_option linter.unusedVariables false
set_option linter.unusedSimpArgs false

def rigF (q : List PlaceT) (x : BarT) (k : Nat) : Int :=
  if k = 2 * x.2.toNat + 1 then (plAt q x.2.toNat).2 - (plAt q x.1.toNat).2
  else if k = 2 * x.2.toNat then (plAt q x.2.toNat).1 - (plAt q x.1.toNat).1
  else if k = 2 * x.1.toNat + 1 then (plAt q x.1.toNat).2 - (plAt q x.2.toNat).2
  else if k = 2 * x.1.toNat then (plAt q x.1.toNat).1 - (plAt q x.2.toNat).1 else 0
def rigRow (p : Int) (q : List PlaceT) (x : BarT) : List Int := rowL (2 * p.toNat) (rigF q x)
def rigM (f : FwT) : List (List Int) := if isFwB f then f.2.1.map (rigRow f.1 f.2.2) else []
theorem isFw_facts {p : Int} {l : List BarT} {q : List PlaceT} (h : isFwB (p, l, q) = true) : (1 ≤ p ∧ p ≤ 6) ∧ (q.length : Int) = p ∧ l.length ≤ 15 ∧ isGraphB (p, l) = true ∧ ∀ (i : Nat) x y, q[i]? = some (x, y) → (0 ≤ x ∧ x ≤ 4) ∧ (0 ≤ y ∧ y ≤ 4) := by
  simp only [isFwB, Bool.and_eq_true, decide_eq_true_eq] at h
  obtain ⟨h1, h2, h3, h4, h5, h6⟩ := h
  have hb := isGraphB_bd h1
  refine ⟨⟨hb.1.1, h2⟩, h3, h4, h1, fun i x y hx => ?_⟩
  have h7 := List.all_eq_true.1 h5 _ (List.mem_of_getElem? hx)
  simp [onB, inB] at h7
  omega

theorem some_cell {w : World} {p : Addr} {x : Int} (h : w.cell? p = some (.int .i64 x)) : ∃ z : Int, w.cell? p = some (.int .i64 z) := ⟨x, h⟩
theorem rigRow_eq {P : Nat} {q : List PlaceT} {i1 i2 : Nat} {y1 y2 t1 t2 a b c d : Int} (h1 : plAt q i1 = (y1, y2)) (h2 : plAt q i2 = (t1, t2)) (ha : y1 - t1 = a) (hb : y2 - t2 = b) (hc : t1 - y1 = c) (hd : t2 - y2 = d) :
    (rowL (2 * P) fun q => if q = 2 * i2 + 1 then d else if q = 2 * i2 then c else if q = 2 * i1 + 1 then b else if q = 2 * i1 then a else 0) = rigRow (P : Int) q ((i1 : Int), (i2 : Int)) := by
  unfold rigRow rigF
  simp only [Int.toNat_natCast, h1, h2, ha, hb, hc, hd]
set_option maxHeartbeats 3000000 in
theorem specRig_at (W : World) (p : Int) (a : Option Addr) (cap : Nat) (l : List BarT) (c : Option Addr) (capc : Nat) (q : List PlaceT) (h : BarsAt W a l.length l) (hq : PlacesAt W c q.length q) (hs : l.length + q.length ≤ 1048576) :
    Calls Try.prog 34 #[.agg #[.int .i64 p, .slice a l.length cap, .slice c q.length capc]] W (RetIntss W (rigM (p, l, q))) := by
  obtain ⟨i0, hinfo, hz0, hz1, hz2⟩ := info_parts infoInt
  have H1 := Lib.hid h
  have H2 := Lib.hid hq
  have HFw : Hid (IsFw W (.agg #[.int .i64 p, .slice a l.length cap, .slice c q.length capc]) (p, l, q)) := Lib.hid ⟨a, cap, c, capc, rfl, h, hq⟩
  clear h hq
  have hsz : szFw (p, l, q) ≤ 1048576 := hs
  have hs1 : l.length ≤ 1048576 := by omega
  have hs2 : q.length ≤ 1048576 := by omega
  have B : Below W.heap.size W ((W.alloc (.cells #[.int .i64 p, .slice a l.length cap, .slice c q.length capc] 29)).alloc (.cells #[] 35)) := ((Below.refl _ _).alloc (Nat.le_refl _) _).alloc (by simp) _
  have BX : Hid (BoxFw ((W.alloc (.cells #[.int .i64 p, .slice a l.length cap, .slice c q.length capc] 29)).alloc (.cells #[] 35)) W.heap.size p a l.length cap c q.length capc) := Lib.hid ((BoxFw.at rfl).below ((Below.refl _ _).alloc (Nat.le_refl _) _))
  have HO0 : Hid (OwnIntss ((W.alloc (.cells #[.int .i64 p, .slice a l.length cap, .slice c q.length capc] 29)).alloc (.cells #[] 35)) (W.heap.size + 1) (.slice (some ⟨W.heap.size + 1, 0, none⟩) 0 0) []) := Lib.hid (by
    have h9 : OwnIntss ((W.alloc (.cells #[.int .i64 p, .slice a l.length cap, .slice c q.length capc] 29)).alloc (.cells #[] 35)) (W.heap.size + 1) (.slice (some ⟨(W.alloc (.cells #[.int .i64 p, .slice a l.length cap, .slice c q.length capc] 29)).heap.size, 0, none⟩) 0 0) [] := ⟨[], World.ownsRow_made _ #[] 0 (by simp) (Nat.zero_le _) rfl, IRows.nil _ _⟩
    simpa using h9)
  have hsu : ((W.alloc (.cells #[.int .i64 p, .slice a l.length cap, .slice c q.length capc] 29)).alloc (.cells #[] 35)).heap.size = W.heap.size + 2 := by simp
  cases hf : isFwB (p, l, q)
  · have HE := Lib.hid (show rigM (p, l, q) = [] by simp only [rigM, hf]; rfl)
    go_enter Try.func34, Try.ntmps34
    go_wp2_with fail
    generalize ((W.alloc (.cells #[.int .i64 p, .slice a l.length cap, .slice c q.length capc] 29)).alloc (.cells #[] 35)) = u at *
    go_loopw [3, 4] (fun s i w9 => s = .slice (some ⟨W.heap.size + 1, 0, none⟩) 0 0 ∧ i = .int .i64 0 ∧ u = w9) (fun _ _ _ => 0)
    case atStart => exact ⟨rfl, rfl, rfl⟩
    case round =>
      obtain ⟨rfl, rfl, rfl⟩ := hrel
      obtain ⟨z, f0, f1, f2⟩ := BX.out
      by_cases h0 : 0 < l.length
      · have h0i : (0 : Int) < (l.length : Int) := by omega
        go_wp2_with fail
        refine (spec_IsFramework _ _ (p, l, q) (HFw.out.below B) hsz).mono ?_
        rintro e w1 ⟨rfl, b⟩
        have B1 := B.step b
        have HO1 := Lib.hid (HO0.out.below b)
        clear b
        rw [hf]
        go_wp2_with fail
        go_ret
        refine ⟨_, rfl, ?_, B1⟩
        rw [HE.out]
        exact ownsRow_base' HO1.out (by omega)
      · go_wp2_with fail
        go_ret
        refine ⟨_, rfl, ?_, B⟩
        rw [HE.out]
        exact ownsRow_base' HO0.out (by omega)
  have HE := Lib.hid (show rigM (p, l, q) = l.map (rigRow p q) by simp only [rigM, hf]; rfl)
  obtain ⟨⟨hg1, hg2⟩, hg3, hg4, hg5, hg6⟩ := isFw_facts hf
  have HG5 := Lib.hid hg5
  have HG6 := Lib.hid hg6
  clear hg5 hg6
  obtain ⟨P, rfl⟩ := Int.eq_ofNat_of_zero_le (show 0 ≤ p by omega)
  go_enter Try.func34, Try.ntmps34
  go_wp2_with fail
  generalize ((W.alloc (.cells #[.int .i64 (P : Int), .slice a l.length cap, .slice c q.length capc] 29)).alloc (.cells #[] 35)) = u at *
  go_loopw [3, 4] (fun s i w9 => ∃ k : Nat, k ≤ l.length ∧ i = .int .i64 k ∧ OwnIntss w9 (W.heap.size + 1) s ((l.take k).map (rigRow P q)) ∧ Below (W.heap.size + 1) u w9) (fun _ i _ => l.length - (intOf i).toNat)
  case atStart => exact ⟨0, Nat.zero_le _, rfl, by simpa using HO0.out, Below.refl _ _⟩
  case round =>
    obtain ⟨k, hk, rfl, ho, hb⟩ := hrel
    have HW := Lib.hid ho
    clear ho
    have B1 := B.trans (hb.mono (by omega))
    have hbz := hb.size
    have f0 := (hb.cell (p := ⟨W.heap.size, 0, none⟩) (by simp)).trans BX.out.c0
    have f1 := (hb.cell (p := ⟨W.heap.size, 1, none⟩) (by simp)).trans BX.out.c1
    have f2 := (hb.cell (p := ⟨W.heap.size, 2, none⟩) (by simp)).trans BX.out.c2
    have BX1 : Hid (BoxFw wr W.heap.size P a l.length cap c q.length capc) := Lib.hid ⟨by omega, f0, f1, f2⟩
    by_cases hlt : k < l.length
    · go_wp2_with fail
      refine (spec_IsFramework _ _ ((P : Int), l, q) (HFw.out.below B1) hsz).mono ?_
      rintro e w3 ⟨rfl, b⟩
      have hzw := b.size
      have HW3 := Lib.hid (HW.out.below b)
      have hb3 := hb.trans (b.mono (by omega))
      have B3 := B1.step b
      have BX3 := Lib.hid (BX1.out.below b)
      clear b f0 f1 f2
      obtain ⟨z3, f0, f1, f2⟩ := BX3.out
      obtain ⟨bb, off, ⟨x1, x2⟩, rfl, hbl, hx, hc0, hc1⟩ := (H1.out.below B3).2 k hlt
      dsimp only at hc0 hc1
      have HX := Lib.hid hx
      obtain ⟨hx1, hx2, hx3⟩ := isGraphB_bar HG5.out hx
      dsimp only at hx1 hx2 hx3
      obtain ⟨i1, rfl⟩ := Int.eq_ofNat_of_zero_le hx1
      obtain ⟨i2, rfl⟩ := Int.eq_ofNat_of_zero_le (show 0 ≤ x2 by omega)
      clear hx
      obtain ⟨bq, oq, ⟨y1, y2⟩, rfl, hbq, hy, hya, hyb⟩ := (H2.out.below B3).2 i1 (by omega)
      obtain ⟨bq', oq', ⟨t1, t2⟩, hab, hbq', ht, hta, htb⟩ := (H2.out.below B3).2 i2 (by omega)
      simp only [Option.some.injEq, Addr.mk.injEq, and_true] at hab
      obtain ⟨rfl, rfl⟩ := hab
      dsimp only at hya hyb hta htb
      have HP1 := Lib.hid (show plAt q i1 = (y1, y2) by simp only [plAt, hy, Option.getD_some])
      have HP2 := Lib.hid (show plAt q i2 = (t1, t2) by simp only [plAt, ht, Option.getD_some])
      have hyb1 := HG6.out i1 y1 y2 hy
      have htb1 := HG6.out i2 t1 t2 ht
      obtain ⟨⟨ya, yb⟩, yc, yd⟩ := hyb1
      obtain ⟨⟨ta, tb⟩, tc, td⟩ := htb1
      clear hy ht
      have hP0 : 2 * P ≤ 12 := by omega
      have hk1 : (i1 : Int) < (q.length : Int) := by omega
      have hk2 : (i2 : Int) < (q.length : Int) := by omega
      have q0 : W.heap.size < w3.heap.size := z3
      rw [hf]
      have HG3 := Lib.hid hg3
      clear hg3
      go_wp2_with (at_make; generalize hwB : World.alloc w3 _ = wB; have hzB : w3.heap.size < wB.heap.size := (by rw [← hwB]; simp); have hBB : Below w3.heap.size w3 wB := (by rw [← hwB]; exact (Below.refl _ _).alloc (Nat.le_refl _) _); have hc5 : wB.cell? ⟨w3.heap.size, 0, none⟩ = some (.int .i64 i1) := (by rw [← hwB]; simp [World.cell?_alloc_new]); have hc6 : wB.cell? ⟨w3.heap.size, 1, none⟩ = some (.int .i64 i2) := (by rw [← hwB]; simp [World.cell?_alloc_new]); clear hwB; refine wpList_make_full _ rfl _ _ _ rfl wB.heap.size 3 i0 (.int .i64 0) 1 Try.underlying35 hinfo hz0 hz1 .i64 .i64 _ _ (2 * P) rfl rfl rfl rfl (by rw [hz2]; omega) (by unfold maxLen; omega) (Nat.le_refl _) ?_; intro w4 hown hgrow; have hb4 : Below wB.heap.size wB w4 := Below.of_grown_none hgrow; have ho4 := ownInts_made hown; have hs4 : wB.heap.size < w4.heap.size := (ho4.lt _ rfl).2; have HO4 := Lib.hid ho4; clear hown hgrow ho4)
      have hb34 : Below w3.heap.size w3 w4 := hBB.trans (hb4.mono (by omega))
      have g0 := (hb34.cell (p := ⟨W.heap.size, 0, none⟩) (by simp; omega)).trans f0
      have g1 := (hb34.cell (p := ⟨W.heap.size, 1, none⟩) (by simp; omega)).trans f1
      have g2 := (hb34.cell (p := ⟨W.heap.size, 2, none⟩) (by simp; omega)).trans f2
      have g5 := (hb4.cell (p := ⟨w3.heap.size, 0, none⟩) (by simp; omega)).trans hc5
      have g6 := (hb4.cell (p := ⟨w3.heap.size, 1, none⟩) (by simp; omega)).trans hc6
      have pa := (hb34.cell (by simp; omega)).trans hya
      have pb := (hb34.cell (by simp; omega)).trans hyb
      have pc := (hb34.cell (by simp; omega)).trans hta
      have pd := (hb34.cell (by simp; omega)).trans htb
      go_quiet (fail)
      go_wp2_with fail
      go_quiet (fail)
      generalize hwC : World.drewN (World.drewN w4 _) _ = wC
      have hb5 : Below wB.heap.size wB wC := by rw [← hwC]; exact below_drewN (below_drewN hb4 _) _
      have hb45 : Below w4.heap.size w4 wC := by rw [← hwC]; exact below_drewN (below_drewN (Below.refl _ _) _) _
      have HO5 := Lib.hid (HO4.out.below hb45)
      clear hwC g0 g1 g2 g5 g6 pa pb pc pd hya hyb hta htb f0 f1 f2 hc0 hc1
      have hdxb : -4 ≤ y1 - t1 ∧ y1 - t1 ≤ 4 := by omega
      have hdyb : -4 ≤ y2 - t2 ∧ y2 - t2 ≤ 4 := by omega
      generalize hdx : y1 - t1 = dx at hdxb ⊢
      generalize hdy : y2 - t2 = dy at hdyb ⊢
      have HDX := Lib.hid hdx
      have HDY := Lib.hid hdy
      clear hdx hdy
      have k1 : 2 * i1 < 2 * P := by omega
      have k2 : 2 * i1 + 1 < 2 * P := by omega
      have k3 : 2 * i2 < 2 * P := by omega
      have k4 : 2 * i2 + 1 < 2 * P := by omega
      have O1 := Lib.hid (HO5.out.setRow (2 * i1) dx)
      have O2 := Lib.hid (O1.out.setRow (2 * i1 + 1) dy)
      have O3 := Lib.hid (O2.out.setRow (2 * i2) (-dx))
      have O4 := Lib.hid (O3.out.setRow (2 * i2 + 1) (-dy))
      have b1 : Below wB.heap.size wB _ := hb5.setCell (p := ⟨wB.heap.size, 2 * i1, none⟩) (Nat.le_refl _) (.int .i64 dx)
      have b2 : Below wB.heap.size wB _ := b1.setCell (p := ⟨wB.heap.size, 2 * i1 + 1, none⟩) (Nat.le_refl _) (.int .i64 dy)
      have b3 : Below wB.heap.size wB _ := b2.setCell (p := ⟨wB.heap.size, 2 * i2, none⟩) (Nat.le_refl _) (.int .i64 (-dx))
      have b4 : Below wB.heap.size wB _ := b3.setCell (p := ⟨wB.heap.size, 2 * i2 + 1, none⟩) (Nat.le_refl _) (.int .i64 (-dy))
      have u1 := HO5.out.rowFroz (2 * i1)
      have u2 := O1.out.rowFroz (2 * i1 + 1)
      have u3 := O2.out.rowFroz (2 * i2)
      have u4 := O3.out.rowFroz (2 * i2 + 1)
      obtain ⟨zv1, v1⟩ := some_cell (HO5.out.rowCell k1)
      obtain ⟨zv2, v2⟩ := some_cell (O1.out.rowCell k2)
      obtain ⟨zv3, v3⟩ := some_cell (O2.out.rowCell k3)
      obtain ⟨zv4, v4⟩ := some_cell (O3.out.rowCell k4)
      have c1 := (hb5.cell (p := ⟨w3.heap.size, 0, none⟩) (by simp; omega)).trans hc5
      have c2 := (b1.cell (p := ⟨w3.heap.size, 0, none⟩) (by simp; omega)).trans hc5
      have c3 := (b2.cell (p := ⟨w3.heap.size, 1, none⟩) (by simp; omega)).trans hc6
      have c4 := (b3.cell (p := ⟨w3.heap.size, 1, none⟩) (by simp; omega)).trans hc6
      have hlk : ((l.take k).map (rigRow P q)).length < 1099511627776 := by rw [List.length_map, List.length_take]; omega
      have HB4 := Lib.hid (hBB.trans (b4.mono (by omega)))
      have hz4 := b4.size
      go_upto_region 13 with (fail)
      clear v1 v2 v3 v4 c1 c2 c3 c4 u1 u2 u3 u4 hc5 hc6
      have hOw := O4.out
      have hbW : Below w3.heap.size w3 _ := HB4.out
      clear b1 b2 b3 b4 O1 O2 O3 O4 HB4 HO5
      generalize World.setCell _ _ _ = wD at *
      rw [rigRow_eq HP1.out HP2.out HDX.out HDY.out (by have := HDX.out; omega) (by have := HDY.out; omega)] at hOw
      have HU : Hid (OwnInts wD (W.heap.size + 1) (.slice (some ⟨wB.heap.size, 0, none⟩) (2 * P) (2 * P)) (rigRow (P : Int) q ((i1 : Int), (i2 : Int)))) := Lib.hid (ownsRow_base hOw (by omega))
      have HB := Lib.hid hbW
      have hzD : w3.heap.size ≤ wD.heap.size := hbW.size
      clear hOw hbW
      obtain ⟨vs, hvs, hrs⟩ := HW3.out
      have HV := Lib.hid hvs
      have HVR := Lib.hid hrs
      clear hvs hrs
      go_wp2_with (at_builtin; refine appRow rfl (.tmp 91) (.tmp 93) rfl rfl HU.out HB.out HV.out HVR.out (fun z hz => by simp [Value.ownBlock] at hz; omega) rfl hlk (by omega) ?_; intro v' w8 h8 k8)
      go_roundw
      case rel =>
        refine ⟨k + 1, by omega, by go_num, ?_, ?_⟩
        · rw [take_succ_of HX.out, List.map_append]
          exact h8
        · have hvs := HV.out
          exact hb3.trans ((HB.out.mono (by omega)).trans (k8.below (by omega) fun z h1 h2 => by
            have := (World.ownsRow.lt hvs z h2.symm).1
            omega))
      case measure => simp [intOf]; omega
    · obtain rfl : k = l.length := by omega
      have HW2 := HW.out
      rw [List.take_length] at HW2
      have HW3 := Lib.hid HW2
      clear HW2
      go_wp2_with fail
      go_ret
      refine ⟨_, rfl, ?_, B1⟩
      rw [HE.out]
      exact ownsRow_base' HW3.out (by omega)
end Go.Proofs.Ytfbmpkdjhhcnpaa

