/- Base: the class of worlds that are as W was below W's size; regions that draw their order, walked once over that class; the comparisons 'within' and 'l1In'. No condition. -/
import Derived.Test.YtfdhbbhfilkafaaGreatRows
import Derived.WalkKit
import Derived.WalkSpells
import Derived.WalkLawsBesides
import Derived.Deep.QuietTactic
import Derived.BigQuiet
import Derived.Deep.RegionHeld3
import Derived.Deep.DeepCutAuto
import Derived.Deep.LoopGhost
import Derived.StillTailTactics
import Derived.Lib.Hide
import Derived.Deep.AppendLies
import Derived.Laws.MakeOwn
import Derived.Laws.CopyOwn
import Derived.WalkSmall
import Derived.Handy
import Derived.IntWalk
import Derived.Deep.RegionLawGrows
namespace Go.Proofs.YtfdhbbhfilkafaaGreat
open Go.RowKit
set_option maxRecDepth 100000
set_option linter.unusedVariables false
set_option linter.unusedSimpArgs false

theorem _root_.Go.RowKit.Below.step {W w1 w2 : World} (h : Below W.heap.size W w1) (h2 : Below w1.heap.size w1 w2) : Below W.heap.size W w2 := h.trans (h2.mono h.size)

theorem bcell {W w1 : World} (hb : Below W.heap.size W w1) : (∀ b o, b < W.heap.size → w1.cell? ⟨b, o, none⟩ = W.cell? ⟨b, o, none⟩) ∧ (∀ b o, b < W.heap.size → w1.frozen? ⟨b, o, none⟩ = W.frozen? ⟨b, o, none⟩) :=
  ⟨fun b o h => hb.cell (p := ⟨b, o, none⟩) h, fun b o h => hb.frozen (p := ⟨b, o, none⟩) h⟩

/-- A world that is as W was, below W's size. -/
structure Wd (W : World) where
  w : World
  h : Below W.heap.size W w
instance Wd.inst (W : World) : Nonempty (Wd W) := ⟨⟨W, Below.refl _ _⟩⟩

theorem Wd.cells {W : World} (n : Wd W) (b o : Nat) (h : b < W.heap.size) : n.w.cell? ⟨b, o, none⟩ = W.cell? ⟨b, o, none⟩ := n.h.cell (p := ⟨b, o, none⟩) h

theorem wp_region_wd {P : Program} {id : Nat} {Q : Exit → Act → World → Prop} {a : Act} {w : World} {l : List Oper} (hm : P.follows .mixedOrders = true) (hB : Region.lexB .any l.toArray = true)
    (h : wpQuiet P l.toArray (fun w' => ∃ n : Wd w, w' = n.w) (fun a' => ∀ n : Wd w, Q .normal a' n.w) l a) : (Code.region id l.toArray true).wp P Q a w :=
  wp_region_quiet (C := fun w' => ∃ n : Wd w, w' = n.w) hm hB ⟨⟨_, (Below.refl _ _).drew⟩, rfl⟩ (by
    have e : (fun a' => ∀ n : Wd w, Q .normal a' n.w) = (fun a' => ∀ w', (∃ n : Wd w, w' = n.w) → Q .normal a' w') := by
      funext a'; apply propext; constructor
      · rintro h w' ⟨n, rfl⟩; exact h n
      · intro h n; exact h _ ⟨n, rfl⟩
    rw [e] at h; simpa using h)

theorem wp_region_wd' {P : Program} {W : World} {n0 : Wd W} {id : Nat} {Q : Exit → Act → World → Prop} {a : Act} {l : List Oper} (hm : P.follows .mixedOrders = true) (hB : Region.lexB .any l.toArray = true)
    (h : wpQuiet P l.toArray (fun w' => ∃ n : Wd W, w' = n.w) (fun a' => ∀ n : Wd W, Q .normal a' n.w) l a) : (Code.region id l.toArray true).wp P Q a n0.w :=
  wp_region_quiet (C := fun w' => ∃ n : Wd W, w' = n.w) hm hB ⟨⟨_, n0.h.drew⟩, rfl⟩ (by
    have e : (fun a' => ∀ n : Wd W, Q .normal a' n.w) = (fun a' => ∀ w', (∃ n : Wd W, w' = n.w) → Q .normal a' w') := by
      funext a'; apply propext; constructor
      · rintro h w' ⟨n, rfl⟩; exact h n
      · intro h n; exact h _ ⟨n, rfl⟩
    rw [e] at h; simpa using h)

theorem _root_.Go.Calls.wd_of {P : Program} {f : FuncId} {args : Array Value} {W : World} {n : Wd W} {v : Value}
    (h : Calls P f args n.w fun e w' => e = .returned v ∧ Below n.w.heap.size n.w w') : Calls P f args n.w fun e w'' => e = .returned v ∧ ∃ m : Wd W, w'' = m.w :=
  h.mono fun _ _ ⟨he, hb⟩ => ⟨he, ⟨_, n.h.step hb⟩, rfl⟩

/-- x lies from lo to hi -/
def inB (x lo hi : Int) : Bool := decide (lo ≤ x) && decide (x ≤ hi)

set_option maxHeartbeats 400000 in
theorem within_any (x lo hi : Int) (w : World) :
    Calls Tryz.prog 55 #[.int .i64 x, .int .i64 lo, .int .i64 hi] w fun e w' => e = .returned (.bool (inB x lo hi)) ∧ w = w' := by
  by_cases h1 : lo ≤ x <;> by_cases h2 : x ≤ hi
  all_goals
    go_enter Tryz.func55, Tryz.ntmps55
    go_wp2
    go_ret
    exact ⟨by simp [inB, h1, h2], rfl⟩

set_option maxHeartbeats 400000 in
theorem l1In_any (x lo hi : Int) (w : World) :
    Calls Tryz.prog 60 #[.int .i64 x, .int .i64 lo, .int .i64 hi] w fun e w' => e = .returned (.bool (inB x lo hi)) ∧ w = w' := by
  by_cases h1 : lo ≤ x <;> by_cases h2 : x ≤ hi
  all_goals
    go_enter Tryz.func60, Tryz.ntmps60
    go_wp2
    go_ret
    exact ⟨by simp [inB, h1, h2], rfl⟩


end Go.Proofs.YtfdhbbhfilkafaaGreat
