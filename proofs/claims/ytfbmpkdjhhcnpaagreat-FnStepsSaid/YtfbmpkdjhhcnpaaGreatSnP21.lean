/- bar, planeRank, raises and IsImplied of the program. Conditions: bars in range, at most 8 points. -/
import Derived.Test.YtfbmpkdjhhcnpaaGreatSnP15
import Derived.Test.YtfbmpkdjhhcnpaaGreatSnP12
import Derived.Test.YtfbmpkdjhhcnpaaGreatSnP20
import Derived.Test.YtfbmpkdjhhcnpaaGreatSnP07
import Derived.Test.YtfbmpkdjhhcnpaaGreatSnP11
import Derived.BigRegion
import Derived.Lib.MinMax
import Derived.Deep.RegionHeld3
import Derived.Test.YtfbmpkdjhhcnpaaGreatSnP19
import Derived.Test.YtfbmpkdjhhcnpaaGreatSnP09
import Derived.Deep.QuietTactic
import Derived.BigQuiet
import Derived.Test.YtfbmpkdjhhcnpaaGreatSnP06
namespace Go.Proofs.YtfbmpkdjhhcnpaaGreat
open Go.RowKit
set_option maxRecDepth 100000
set_option linter.unusedVariables false
set_option linter.unusedSimpArgs false

set_option maxHeartbeats 1000000 in
theorem hasG_any (W : World) (p : Int) (a : Option Addr) (n cap : Nat) (x : Int) (hp1 : 1 ≤ p) (hp2 : p ≤ 8) :
    Calls Tryz.prog 124 #[.agg #[.int .i64 p, .slice a n cap], .int .i64 x] W fun e w' => e = .returned (.bool (inB x 0 (p - 1))) ∧ Below W.heap.size W w' := by
  go_enter Tryz.func124, Tryz.ntmps124
  go_wp2_with (go_at_call 47; refine (within_any _ _ _ _).mono ?_; rintro e w' ⟨rfl, rfl⟩)
  go_ret
  exact ⟨rfl, (Below.refl _ _).alloc (Nat.le_refl _) _⟩
def rk (n : Nat) (l : List BarT) : Nat := (playP n l 2 3).2.2.length
set_option maxHeartbeats 1000000 in
theorem bar_any (x y : Int) (w : World) : Calls Tryz.prog 93 #[.int .i64 x, .int .i64 y] w fun e w' => e = .returned (.agg #[.int .i64 (min x y), .int .i64 (max x y)]) ∧ Below w.heap.size w w' := by
  have b0 := belAl w (.cells #[.int .i64 0, .int .i64 0] 70)
  have f0 : (w.alloc (.cells #[.int .i64 0, .int .i64 0] 70)).cell? ⟨w.heap.size, 0, none⟩ = some (.int .i64 0) := by simp [World.cell?_alloc_new]
  go_enter Tryz.func93, Tryz.ntmps93
  go_wp2_with fail
  refine bodyPost_ret (v := .agg #[.int .i64 (min x y), .int .i64 (max x y)]) (by simp [results, Tryz.results93, go_sem, World.cell?_alloc_new]) rfl ⟨rfl, belAl _ _⟩

def degTo (l : List BarT) (v : Int) : Nat → Int
  | 0 => 0
  | k + 1 => match l[k]? with
    | some x => if x.1 = v ∨ x.2 = v then degTo l v k + 1 else degTo l v k
    | none => degTo l v k
theorem degTo_bd (l : List BarT) (v : Int) (k : Nat) : 0 ≤ degTo l v k ∧ degTo l v k ≤ k := by
  induction k with
  | zero => simp [degTo]
  | succ k ih => simp only [degTo]; split <;> (try split) <;> omega
def degB (l : List BarT) (v : Int) : Int := degTo l v l.length
def idxB (l : List BarT) (x : BarT) : Int := if x ∈ l then (l.idxOf x : Int) else -1
theorem idxB_at {s : List BarT} {x : BarT} {k : Nat} (h : s[k]? = some x) (hn : x ∉ s.take k) : idxB s x = k := by
  have hm := List.mem_of_getElem? h
  have hk := lt_of_getElem? h
  unfold idxB
  rw [if_pos hm]
  have h1 : s.idxOf x = k := by
    have e : s = s.take k ++ s.drop k := (List.take_append_drop k s).symm
    rw [e, List.idxOf_append, if_neg hn, List.length_take, Nat.min_eq_left (by omega), List.drop_eq_getElem_cons hk, (List.getElem?_eq_some_iff.1 h).2]
    simp
  rw [h1]
theorem idxB_none {s : List BarT} {x : BarT} (h : x ∉ s.take s.length) : idxB s x = -1 := by
  rw [List.take_length] at h
  unfold idxB
  rw [if_neg h]
theorem idxB_lt (s : List BarT) (x : BarT) : -1 ≤ idxB s x ∧ idxB s x < s.length := by
  unfold idxB
  split
  · rename_i h
    have := List.idxOf_lt_length_iff.2 h
    omega
  · omega
theorem notMemB {s : List BarT} {x y : BarT} {k : Nat} (h : x ∉ s.take k) (hy : s[k]? = some y) (hne : ¬ x = y) : x ∉ s.take (k + 1) := by
  rw [take_succ_of hy]
  simp only [List.mem_append, List.mem_singleton]
  rintro (h1 | h1)
  · exact h h1
  · exact hne h1
def difTo (p : Int) (l : List Int) : Nat → Bool
  | 0 => true
  | k + 1 => difTo p l k && (inB (l[k]?.getD 0) 0 (p - 1) && !decide (l[k]?.getD 0 ∈ l.take k))
def difB (p : Int) (l : List Int) : Bool := difTo p l l.length
theorem difTo_false {p : Int} {l : List Int} {k : Nat} (h : difTo p l k = false) : ∀ d, difTo p l (k + d) = false
  | 0 => h
  | d + 1 => by
    show (difTo p l (k + d) && _) = false
    rw [difTo_false h d, Bool.false_and]
theorem difB_not {p : Int} {l : List Int} {k : Nat} {x : Int} (hk : l[k]? = some x) (h : inB x 0 (p - 1) = false ∨ x ∈ l.take k) : difB p l = false := by
  have hl := lt_of_getElem? hk
  have h1 : difTo p l (k + 1) = false := by
    unfold difTo
    rw [hk, Option.getD_some]
    rcases h with h | h
    · rw [h]; simp
    · rw [decide_eq_true h]; simp
  have h2 := difTo_false h1 (l.length - (k + 1))
  unfold difB
  rwa [show k + 1 + (l.length - (k + 1)) = l.length by omega] at h2
theorem difTo_succ {p : Int} {l : List Int} {k : Nat} {x : Int} (h : difTo p l k = true) (hk : l[k]? = some x) (h1 : inB x 0 (p - 1) = true) (h2 : x ∉ l.take k) : difTo p l (k + 1) = true := by
  unfold difTo
  rw [h, hk, Option.getD_some, h1, decide_eq_false h2]
  rfl
theorem IntsAt.takeS {W : World} {a : Option Addr} {n m : Nat} {r : List Int} (h : IntsAt W a n r) (hm : m ≤ n) : IntsAt W a m (r.take m) :=
  ⟨by rw [List.length_take, h.1]; omega, fun k hk => by
    obtain ⟨b, off, x, h1, h2, h3, h4⟩ := h.2 k (by omega)
    exact ⟨b, off, x, h1, h2, by rw [List.getElem?_take_of_lt hk]; exact h3, h4⟩⟩

set_option maxHeartbeats 2000000 in
theorem specDeg_at (W : World) (p : Int) (a : Option Addr) (cap : Nat) (l : List BarT) (h : BarsAt W a l.length l) (hs : l.length ≤ 1048576) (v : Int) : Calls Tryz.prog 63 #[.agg #[.int .i64 p, .slice a l.length cap], .int .i64 v] W fun e w' => e = .returned (.int .i64 (degB l v)) ∧ Below W.heap.size W w' := by
  have hwd := @Wd.cells
  have HGr : Hid (IsGraph W (.agg #[.int .i64 p, .slice a l.length cap]) (p, l)) := Lib.hid ⟨a, cap, rfl, h⟩
  have H1 := Lib.hid h
  clear h
  have hsz : szGraph (p, l) ≤ 1048576 := hs
  have hsz2 : szGraph (p, l) ≤ 1099511627776 := Nat.le_trans hsz (by decide)
  have B : Below W.heap.size W (W.alloc (.cells #[.int .i64 p, .slice a l.length cap] 26)) := (Below.refl _ _).alloc (Nat.le_refl _) _
  have BG : Hid (BoxGr (W.alloc (.cells #[.int .i64 p, .slice a l.length cap] 26)) W.heap.size p a l.length cap) := Lib.hid (BoxGr.at rfl)
  go_enter Tryz.func63, Tryz.ntmps63
  go_wp2_with fail
  generalize (W.alloc (.cells #[.int .i64 p, .slice a l.length cap] 26)) = u at *
  go_loop [5, 6] (fun c i => ∃ k : Nat, k ≤ l.length ∧ i = .int .i64 k ∧ c = .int .i64 (degTo l v k)) (fun _ i => l.length - (intOf i).toNat)
  case atStart => exact ⟨0, Nat.zero_le _, rfl, rfl⟩
  case round =>
    obtain ⟨k, hk, rfl, rfl⟩ := hrel
    obtain ⟨zBG, fBG0, fBG1⟩ := BG.out
    have hbd := degTo_bd l v k
    by_cases hlt : k < l.length
    · obtain ⟨bb, off, ⟨x1, x2⟩, rfl, hbl, hx, hc0, hc1⟩ := (H1.out.below B).2 k hlt
      dsimp only at hc0 hc1
      have hki : (k : Int) < (l.length : Int) := by omega
      have hk0 : (0 : Int) ≤ (k : Int) := by omega
      have HS : Hid (degTo l v (k + 1) = if x1 = v ∨ x2 = v then degTo l v k + 1 else degTo l v k) := Lib.hid (by simp only [degTo, hx])
      clear hx
      by_cases h1 : x1 = v
      · have q1 : (x1 == v) = true := by rw [h1]; simp
        have HT := Lib.hid (HS.out.trans (if_pos (.inl h1)))
        clear h1
        generalize degTo l v k = D at *
        go_wp2_with fail
        go_round
        case rel => exact ⟨k + 1, by omega, by go_num, by rw [HT.out]⟩
        case measure => simp [intOf]; omega
      · have q1 : (x1 == v) = false := by rw [beq_eq_false_iff_ne]; exact h1
        by_cases h2 : x2 = v
        · have q2 : (x2 == v) = true := by rw [h2]; simp
          have HT := Lib.hid (HS.out.trans (if_pos (.inr h2)))
          clear h1 h2
          generalize degTo l v k = D at *
          go_wp2_with fail
          go_round
          case rel => exact ⟨k + 1, by omega, by go_num, by rw [HT.out]⟩
          case measure => simp [intOf]; omega
        · have q2 : (x2 == v) = false := by rw [beq_eq_false_iff_ne]; exact h2
          have HT := Lib.hid (HS.out.trans (if_neg (by rintro (h | h); exact h1 h; exact h2 h)))
          clear h1 h2
          generalize degTo l v k = D at *
          go_wp2_with fail
          go_round
          case rel => exact ⟨k + 1, by omega, by go_num, by rw [HT.out]⟩
          case measure => simp [intOf]; omega
    · obtain rfl : k = l.length := by omega
      go_wp2_with fail
      go_ret
      exact ⟨rfl, B⟩
set_option maxHeartbeats 1000000 in
theorem used_any (W : World) (p : Int) (a : Option Addr) (cap : Nat) (l : List BarT) (h : BarsAt W a l.length l) (hs : l.length ≤ 1048576) (v : Int) : Calls Tryz.prog 99 #[.agg #[.int .i64 p, .slice a l.length cap], .int .i64 v] W fun e w' => e = .returned (.bool (decide (0 < degB l v))) ∧ Below W.heap.size W w' := by
  have hwd := @Wd.cells
  have HGr : Hid (IsGraph W (.agg #[.int .i64 p, .slice a l.length cap]) (p, l)) := Lib.hid ⟨a, cap, rfl, h⟩
  have H1 := Lib.hid h
  clear h
  have hsz : szGraph (p, l) ≤ 1048576 := hs
  have hsz2 : szGraph (p, l) ≤ 1099511627776 := Nat.le_trans hsz (by decide)
  have B : Below W.heap.size W (W.alloc (.cells #[.int .i64 p, .slice a l.length cap] 26)) := (Below.refl _ _).alloc (Nat.le_refl _) _
  have BG : Hid (BoxGr (W.alloc (.cells #[.int .i64 p, .slice a l.length cap] 26)) W.heap.size p a l.length cap) := Lib.hid (BoxGr.at rfl)
  obtain ⟨zBG, fBG0, fBG1⟩ := BG.out
  have HC := Lib.hid (specDeg_at _ p a cap l (H1.out.below B) hs v)
  have hbd := degTo_bd l v l.length
  have hbd1 : 0 ≤ degB l v := hbd.1
  clear hbd
  generalize degB l v = D at *
  go_enter Tryz.func99, Tryz.ntmps99
  go_wp2_with (go_at_call 63; refine HC.out.mono ?_; rintro e w1 ⟨rfl, b⟩)
  go_ret
  exact ⟨rfl, B.step b⟩
set_option maxHeartbeats 2000000 in
theorem l7At_at (W : World) (p : Int) (a : Option Addr) (cap : Nat) (l : List BarT) (h : BarsAt W a l.length l) (hs : l.length ≤ 1048576) (x y : Int) : Calls Tryz.prog 100 #[.agg #[.int .i64 p, .slice a l.length cap], .int .i64 x, .int .i64 y] W fun e w' => e = .returned (.int .i64 (idxB l (min x y, max x y))) ∧ Below W.heap.size W w' := by
  have hwd := @Wd.cells
  have HGr : Hid (IsGraph W (.agg #[.int .i64 p, .slice a l.length cap]) (p, l)) := Lib.hid ⟨a, cap, rfl, h⟩
  have H1 := Lib.hid h
  clear h
  have hsz : szGraph (p, l) ≤ 1048576 := hs
  have hsz2 : szGraph (p, l) ≤ 1099511627776 := Nat.le_trans hsz (by decide)
  have B : Below W.heap.size W (W.alloc (.cells #[.int .i64 p, .slice a l.length cap] 26)) := (Below.refl _ _).alloc (Nat.le_refl _) _
  have BG : Hid (BoxGr (W.alloc (.cells #[.int .i64 p, .slice a l.length cap] 26)) W.heap.size p a l.length cap) := Lib.hid (BoxGr.at rfl)
  go_enter Tryz.func100, Tryz.ntmps100
  go_wp2_with fail
  generalize (W.alloc (.cells #[.int .i64 p, .slice a l.length cap] 26)) = u at *
  go_loop [7] (fun i => ∃ k : Nat, k ≤ l.length ∧ i = .int .i64 k ∧ (min x y, max x y) ∉ l.take k) (fun i => l.length - (intOf i).toNat)
  case atStart => exact ⟨0, Nat.zero_le _, rfl, by simp⟩
  case round =>
    obtain ⟨k, hk, rfl, hn⟩ := hrel
    have HN := Lib.hid hn
    clear hn
    obtain ⟨zBG, fBG0, fBG1⟩ := BG.out
    by_cases hlt : k < l.length
    · obtain ⟨bb, off, ⟨x1, x2⟩, rfl, hbl, hx, hc0, hc1⟩ := (H1.out.below B).2 k hlt
      dsimp only at hc0 hc1
      have hki : (k : Int) < (l.length : Int) := by omega
      have hk0 : (0 : Int) ≤ (k : Int) := by omega
      have HX := Lib.hid hx
      clear hx
      by_cases h1 : x1 = min x y
      · have q1 : (x1 == min x y) = true := by rw [h1]; simp
        by_cases h2 : x2 = max x y
        · have q2 : (x2 == max x y) = true := by rw [h2]; simp
          have HE := Lib.hid (show idxB l (min x y, max x y) = k from idxB_at (by rw [HX.out, h1, h2]) HN.out)
          clear h1 h2
          go_wp2_with fail
          go_ret
          exact ⟨by rw [HE.out]; rfl, B⟩
        · have q2 : (x2 == max x y) = false := by rw [beq_eq_false_iff_ne]; exact h2
          have HM := Lib.hid (notMemB HN.out HX.out (by rintro e; exact h2 (Prod.mk.inj e).2.symm))
          clear h1 h2
          go_wp2_with fail
          go_round
          case rel => exact ⟨k + 1, by omega, by go_num, HM.out⟩
          case measure => simp [intOf]; omega
      · have q1 : (x1 == min x y) = false := by rw [beq_eq_false_iff_ne]; exact h1
        have HM := Lib.hid (notMemB HN.out HX.out (by rintro e; exact h1 (Prod.mk.inj e).1.symm))
        clear h1
        go_wp2_with fail
        go_round
        case rel => exact ⟨k + 1, by omega, by go_num, HM.out⟩
        case measure => simp [intOf]; omega
    · obtain rfl : k = l.length := by omega
      have HE := Lib.hid (idxB_none HN.out)
      go_wp2_with fail
      go_ret
      exact ⟨by rw [HE.out]; rfl, B⟩
set_option maxHeartbeats 4000000 in
theorem l7Points_at (W : World) (p : Int) (a : Option Addr) (cap : Nat) (l : List BarT) (h : BarsAt W a l.length l) (hs : l.length ≤ 1048576) (va : Option Addr) (n : Nat) (s : List Int) (hv : IntsAt W va n s) (hvn : n ≤ 1048576) (hp : 1 ≤ p ∧ p ≤ 8) : Calls Tryz.prog 97 #[.agg #[.int .i64 p, .slice a l.length cap], .slice va n n] W fun e w' => e = .returned (.bool (difB p s)) ∧ Below W.heap.size W w' := by
  have hwd := @Wd.cells
  have hwd := @Wd.cells
  have HGr : Hid (IsGraph W (.agg #[.int .i64 p, .slice a l.length cap]) (p, l)) := Lib.hid ⟨a, cap, rfl, h⟩
  have H1 := Lib.hid h
  clear h
  have hsz : szGraph (p, l) ≤ 1048576 := hs
  have hsz2 : szGraph (p, l) ≤ 1099511627776 := Nat.le_trans hsz (by decide)
  have B : Below W.heap.size W (W.alloc (.cells #[.int .i64 p, .slice a l.length cap] 26)) := (Below.refl _ _).alloc (Nat.le_refl _) _
  have BG : Hid (BoxGr (W.alloc (.cells #[.int .i64 p, .slice a l.length cap] 26)) W.heap.size p a l.length cap) := Lib.hid (BoxGr.at rfl)
  have HV := Lib.hid hv
  have HL := Lib.hid hv.1
  clear hv
  go_enter Tryz.func97, Tryz.ntmps97
  go_wp2_with fail
  generalize (W.alloc (.cells #[.int .i64 p, .slice a l.length cap] 26)) = u at *
  go_loopw [5] (fun i w9 => ∃ k : Nat, k ≤ n ∧ i = .int .i64 k ∧ difTo p s k = true ∧ Below W.heap.size W w9 ∧ BoxGr w9 W.heap.size p a l.length cap) (fun i _ => n - (intOf i).toNat)
  case atStart => exact ⟨0, Nat.zero_le _, rfl, rfl, B, BG.out⟩
  case round =>
    clear B BG
    obtain ⟨k, hk, rfl, hd, B, bg⟩ := hrel
    have BG := Lib.hid bg
    have HD := Lib.hid hd
    clear hd bg
    by_cases hlt : k < n
    · obtain ⟨b, off, y, rfl, hbl, hy, hcell⟩ := (HV.out.below B).2 k hlt
      have HY := Lib.hid hy
      have HK : Hid (IntsAt wr (some ⟨b, off, none⟩) k (s.take k)) := Lib.hid ((HV.out.below B).takeS (by omega))
      have HC : Hid (∀ w, Below W.heap.size W w → ∀ cp, Calls Tryz.prog 73 #[.slice (some ⟨b, off, none⟩) k cp, .int .i64 y] w fun e w' => e = .returned (.bool (decide (y ∈ s.take k))) ∧ Below w.heap.size w w') :=
        Lib.hid fun w hw cp => (l2Has_at w _ k cp _ ((HV.out.below hw).takeS (by omega)) (by omega) y).mono fun _ _ ⟨h1, h2⟩ => ⟨h1, h2 ▸ Below.refl _ _⟩
      clear hy HK
      have hki : (k : Int) < (n : Int) := by omega
      have hk0 : (0 : Int) ≤ (k : Int) := by omega
      have hkn : (k : Int) ≤ (n : Int) := by omega
      have hS : ∀ w, (Instr.slice 35 (.slice (some ⟨b, off, none⟩) n n) none (some (.int .i64 (k : Int))) none).run Tryz.prog w = .ok (.slice (some ⟨b, off, none⟩) k n) w := fun w => by go_simp
      have hn9 : n ≤ 9223372036854775807 := by omega
      obtain ⟨zBG, fBG0, fBG1⟩ := BG.out
      by_cases e1 : y < 0
      · have hd1 : decide (y < 0) = true := decide_eq_true e1
        have HF := Lib.hid (ret_bool (difB_not (p := p) HY.out (.inl (by simp [inB]; omega))))
        go_wp2_with fail
        refine wp_region_wd (by kernel_rfl) (by kernel_rfl) ?_
        repeat (go_big_quiet_step (fail))
        refine wpQuiet_nil ?_
        intro n1
        have b1 := n1.h
        go_wp2_with fail
        go_ret
        exact ⟨HF.out.symm, B.step b1⟩
      · have hd1 : decide (y < 0) = false := decide_eq_false e1
        by_cases e2 : p ≤ y
        · have hd2 : decide (y ≥ p) = true := decide_eq_true e2
          have hd3 : decide (p ≤ y) = true := decide_eq_true e2
          have HF := Lib.hid (ret_bool (difB_not (p := p) HY.out (.inl (by simp [inB]; omega))))
          go_wp2_with fail
          refine wp_region_wd (by kernel_rfl) (by kernel_rfl) ?_
          repeat (go_big_quiet_step (fail))
          refine wpQuiet_nil ?_
          intro n1
          have b1 := n1.h
          go_wp2_with fail
          go_ret
          exact ⟨HF.out.symm, B.step b1⟩
        · have hd2 : decide (y ≥ p) = false := decide_eq_false e2
          have hd3 : decide (p ≤ y) = false := decide_eq_false e2
          have HCW : Hid (∀ n1 : Wd wr, Calls Tryz.prog 73 #[.slice (some ⟨b, off, none⟩) k n, .int .i64 y] n1.w fun e w' => e = .returned (.bool (decide (y ∈ s.take k))) ∧ Below n1.w.heap.size n1.w w') := Lib.hid fun n1 => HC.out _ (B.step n1.h) n
          by_cases e3 : y ∈ s.take k
          · have HF := Lib.hid (ret_bool (difB_not (p := p) HY.out (.inr e3)))
            rw [decide_eq_true e3] at HCW
            clear e3
            go_wp2_with fail
            refine wp_region_wd (by kernel_rfl) (by kernel_rfl) ?_
            repeat (go_big_quiet_step ((first | (go_at_call 73; exact Calls.wd_of (HCW.out _)))))
            refine wpQuiet_nil ?_
            intro n1
            have b1 := n1.h
            go_wp2_with fail
            go_ret
            exact ⟨HF.out.symm, B.step b1⟩
          · have HT := Lib.hid (difTo_succ HD.out HY.out (by simp [inB]; omega) e3)
            rw [decide_eq_false e3] at HCW
            clear e3
            go_wp2_with fail
            refine wp_region_wd (by kernel_rfl) (by kernel_rfl) ?_
            repeat (go_big_quiet_step ((first | (go_at_call 73; exact Calls.wd_of (HCW.out _)))))
            refine wpQuiet_nil ?_
            intro n1
            have b1 := n1.h
            go_wp2_with fail
            go_roundw
            case rel => exact ⟨k + 1, by omega, by go_num, HT.out, B.step b1, BG.out.below b1⟩
            case measure => simp [intOf]; omega
    · obtain rfl : k = n := by omega
      have HE := Lib.hid (show difB p s = true by have h1 := HD.out; unfold difB; rwa [HL.out])
      obtain ⟨zBG, fBG0, fBG1⟩ := BG.out
      go_wp2_with fail
      go_ret
      exact ⟨by rw [HE.out]; rfl, B⟩

def BoxFw (w : World) (g : Nat) (p : Int) (a : Option Addr) (n cap : Nat) (c : Option Addr) (t capc : Nat) : Prop :=
  g < w.heap.size ∧ w.cell? ⟨g, 0, none⟩ = some (.int .i64 p) ∧ w.cell? ⟨g, 1, none⟩ = some (.slice a n cap) ∧ w.cell? ⟨g, 2, none⟩ = some (.slice c t capc)
section
variable {w w' : World} {g : Nat} {p : Int} {a : Option Addr} {n cap : Nat} {c : Option Addr} {t capc ty : Nat}
theorem BoxFw.at (hg : g = w.heap.size) : BoxFw (w.alloc (.cells #[.int .i64 p, .slice a n cap, .slice c t capc] ty)) g p a n cap c t capc := by
  subst hg
  exact ⟨by simp, by simp [World.cell?_alloc_new], by simp [World.cell?_alloc_new], by simp [World.cell?_alloc_new]⟩
end
def BoxPl (w : World) (g : Nat) (x y : Int) : Prop := g < w.heap.size ∧ w.cell? ⟨g, 0, none⟩ = some (.int .i64 x) ∧ w.cell? ⟨g, 1, none⟩ = some (.int .i64 y)
section
variable {w w' : World} {g : Nat} {x y : Int} {ty : Nat}
theorem BoxPl.below (h : BoxPl w g x y) (hb : Below w.heap.size w w') : BoxPl w' g x y :=
  ⟨Nat.lt_of_lt_of_le h.1 hb.size, ((bcell hb).1 _ _ h.1).trans h.2.1, ((bcell hb).1 _ _ h.1).trans h.2.2⟩
theorem BoxPl.at (hg : g = w.heap.size) : BoxPl (w.alloc (.cells #[.int .i64 x, .int .i64 y] ty)) g x y := by
  subst hg
  exact ⟨by simp, by simp [World.cell?_alloc_new], by simp [World.cell?_alloc_new]⟩
end

set_option maxHeartbeats 4000000 in
theorem implCpG_at (W : World) (p : Int) (a : Option Addr) (cap n : Nat) (l : List BarT) (h : BarsAt W a n l) (hn : n ≤ 1048576) :
    Calls Tryz.prog 90 #[.agg #[.int .i64 p, .slice a n cap]] W (RetGraph W (p, l)) := by
  have HI := Lib.hid h
  clear h
  have hb0 : Below W.heap.size W (((W.alloc (.cells #[.int .i64 p, .slice a n cap] 26)).alloc (.cells #[.int .i64 0, .slice none 0 0] 26))) := ((Below.refl _ W).alloc (Nat.le_refl _) _).alloc (by simp) _
  have f0 : (((W.alloc (.cells #[.int .i64 p, .slice a n cap] 26)).alloc (.cells #[.int .i64 0, .slice none 0 0] 26))).cell? ⟨W.heap.size, 0, none⟩ = some (.int .i64 p) := by simp [World.cell?_alloc_new]
  have f1 : (((W.alloc (.cells #[.int .i64 p, .slice a n cap] 26)).alloc (.cells #[.int .i64 0, .slice none 0 0] 26))).cell? ⟨W.heap.size, 1, none⟩ = some (.slice a n cap) := by simp [World.cell?_alloc_new]
  have r0 : (((W.alloc (.cells #[.int .i64 p, .slice a n cap] 26)).alloc (.cells #[.int .i64 0, .slice none 0 0] 26))).cell? ⟨W.heap.size + 1, 0, none⟩ = some (.int .i64 0) := by simp [World.cell?_alloc_new]
  have r1 : (((W.alloc (.cells #[.int .i64 p, .slice a n cap] 26)).alloc (.cells #[.int .i64 0, .slice none 0 0] 26))).cell? ⟨W.heap.size + 1, 1, none⟩ = some (.slice none 0 0) := by simp [World.cell?_alloc_new]
  have z0 : (((W.alloc (.cells #[.int .i64 p, .slice a n cap] 26)).alloc (.cells #[.int .i64 0, .slice none 0 0] 26))).frozen? ⟨W.heap.size + 1, 0, none⟩ = false := by simp [World.frozen?_alloc_new]
  have z1 : (((W.alloc (.cells #[.int .i64 p, .slice a n cap] 26)).alloc (.cells #[.int .i64 0, .slice none 0 0] 26))).frozen? ⟨W.heap.size + 1, 1, none⟩ = false := by simp [World.frozen?_alloc_new]
  have hu : (((W.alloc (.cells #[.int .i64 p, .slice a n cap] 26)).alloc (.cells #[.int .i64 0, .slice none 0 0] 26))).heap.size = W.heap.size + 2 := by simp
  have HF := Lib.hid (And.intro f0 f1)
  have HR := Lib.hid (And.intro r0 r1)
  have HZ := Lib.hid (And.intro z0 z1)
  clear f0 f1 r0 r1 z0 z1
  go_enter Tryz.func90, Tryz.ntmps90
  go_wp2_with fail
  generalize ((W.alloc (.cells #[.int .i64 p, .slice a n cap] 26)).alloc (.cells #[.int .i64 0, .slice none 0 0] 26)) = u at *
  have hu1 : u.heap.size ≤ W.heap.size + 2 := by omega
  have hu2 : W.heap.size + 2 ≤ u.heap.size := by omega
  clear hu
  have d0 : u.drew.cell? ⟨W.heap.size, 0, none⟩ = _ := HF.out.1
  have d1 : u.drew.cell? ⟨W.heap.size, 1, none⟩ = _ := HF.out.2
  have bu : Below u.heap.size u (u.alloc (.cells #[] 70)).drew := ((Below.refl _ u).alloc (Nat.le_refl _) _).drew
  have k0 : (u.alloc (.cells #[] 70)).drew.cell? ⟨W.heap.size, 0, none⟩ = some (.int .i64 p) := ((bcell bu).1 _ _ (by omega)).trans HF.out.1
  have k1 : (u.alloc (.cells #[] 70)).drew.cell? ⟨W.heap.size, 1, none⟩ = some (.slice a n cap) := ((bcell bu).1 _ _ (by omega)).trans HF.out.2
  have hz2 : u.heap.size + 1 ≤ (u.alloc (.cells #[] 70)).drew.heap.size := by show _ ≤ (u.alloc (.cells #[] 70)).heap.size; simp
  have HO : OwnBars (u.alloc (.cells #[] 70)).drew u.heap.size (.slice (some ⟨u.heap.size, 0, none⟩) 0 0) [] := OwnBars.made u _ (Nat.le_refl _)
  have HS : BarsAt (u.alloc (.cells #[] 70)).drew a n l := HI.out.below ((hb0.alloc (by omega) _).drew)
  have e0 : W.heap.size < u.drew.heap.size := by show _ < u.heap.size; omega
  have e1 : W.heap.size + 1 < u.drew.heap.size := by show _ < u.heap.size; omega
  have HHO := Lib.hid HO
  have HHS := Lib.hid HS
  clear HO HS
  go_region_held3 (fun w' => w'.cell? ⟨W.heap.size, 0, none⟩ = some (.int .i64 p) ∧ w'.cell? ⟨W.heap.size, 1, none⟩ = some (.slice a n cap))
    (first | (with_reducible exact ⟨d0, d1⟩) | (with_reducible exact ⟨k0, k1⟩) | (with_reducible exact ⟨c0, c1⟩) | (go_keep))
    ((
         refine stepAppBars (by rfl) _ _ (by rfl) (by rfl) HHO.out (by rfl) HHS.out (by simp; omega) (by simp [World.drew]) ?_
         intro v' w1 ho hk ha
         rw [List.nil_append] at ho
         have HB := Lib.hid ho
         obtain ⟨a', c', rfl, hi'⟩ := ho.form
         clear ho
         have hnb : ∀ b, b < u.heap.size → ¬ (some b = Value.ownBlock (.slice (some ⟨u.heap.size, 0, none⟩) 0 0)) := fun b hb hh => by simp [Value.ownBlock] at hh; omega
         have c0 := (hk.cell (o := 0) (by omega) (hnb W.heap.size (by omega))).trans k0
         have c1 := (hk.cell (o := 1) (by omega) (hnb W.heap.size (by omega))).trans k1
         have q0 := ((hk.cell (o := 0) (by omega) (hnb (W.heap.size + 1) (by omega))).trans ((bcell bu).1 _ _ (by omega))).trans HR.out.1
         have q1 := ((hk.cell (o := 1) (by omega) (hnb (W.heap.size + 1) (by omega))).trans ((bcell bu).1 _ _ (by omega))).trans HR.out.2
         have y0 := ((hk.frozen (o := 0) (by omega) (hnb (W.heap.size + 1) (by omega))).trans ((bcell bu).2 _ _ (by omega))).trans HZ.out.1
         have y1 := ((hk.frozen (o := 1) (by omega) (hnb (W.heap.size + 1) (by omega))).trans ((bcell bu).2 _ _ (by omega))).trans HZ.out.2
         have hbw := (hb0.trans (bu.mono (by omega))).trans (hk.setOwn HHO.out (B := W.heap.size) (by omega) (by omega))
         have hsz := hk.size
         have q3 : W.heap.size < w1.heap.size := by omega
         have q4 : W.heap.size + 1 < w1.heap.size := by omega))
  go_wp2_with fail
  refine bodyPost_ret (v := .agg #[.int .i64 p, .slice a' l.length c']) (by simp [results, Tryz.results90, go_sem, q4, q0, q1]) rfl ⟨_, rfl, ⟨.slice a' l.length c', ⟨a', c', rfl, rfl⟩, ?_⟩, ?_⟩
  · exact ((HB.out.set (by simp; omega) _).set (by simp; omega) _).low (by omega)
  · exact (hbw.setCell (by simp) _).setCell (by simp) _

set_option maxHeartbeats 4000000 in
theorem specCpG_at (W : World) (p : Int) (a : Option Addr) (cap n : Nat) (l : List BarT) (h : BarsAt W a n l) (hn : n ≤ 1048576) :
    Calls Tryz.prog 78 #[.agg #[.int .i64 p, .slice a n cap]] W (RetGraph W (p, l)) := by
  have HI := Lib.hid h
  clear h
  have hb0 : Below W.heap.size W (((W.alloc (.cells #[.int .i64 p, .slice a n cap] 26)).alloc (.cells #[.int .i64 0, .slice none 0 0] 26))) := ((Below.refl _ W).alloc (Nat.le_refl _) _).alloc (by simp) _
  have f0 : (((W.alloc (.cells #[.int .i64 p, .slice a n cap] 26)).alloc (.cells #[.int .i64 0, .slice none 0 0] 26))).cell? ⟨W.heap.size, 0, none⟩ = some (.int .i64 p) := by simp [World.cell?_alloc_new]
  have f1 : (((W.alloc (.cells #[.int .i64 p, .slice a n cap] 26)).alloc (.cells #[.int .i64 0, .slice none 0 0] 26))).cell? ⟨W.heap.size, 1, none⟩ = some (.slice a n cap) := by simp [World.cell?_alloc_new]
  have r0 : (((W.alloc (.cells #[.int .i64 p, .slice a n cap] 26)).alloc (.cells #[.int .i64 0, .slice none 0 0] 26))).cell? ⟨W.heap.size + 1, 0, none⟩ = some (.int .i64 0) := by simp [World.cell?_alloc_new]
  have r1 : (((W.alloc (.cells #[.int .i64 p, .slice a n cap] 26)).alloc (.cells #[.int .i64 0, .slice none 0 0] 26))).cell? ⟨W.heap.size + 1, 1, none⟩ = some (.slice none 0 0) := by simp [World.cell?_alloc_new]
  have z0 : (((W.alloc (.cells #[.int .i64 p, .slice a n cap] 26)).alloc (.cells #[.int .i64 0, .slice none 0 0] 26))).frozen? ⟨W.heap.size + 1, 0, none⟩ = false := by simp [World.frozen?_alloc_new]
  have z1 : (((W.alloc (.cells #[.int .i64 p, .slice a n cap] 26)).alloc (.cells #[.int .i64 0, .slice none 0 0] 26))).frozen? ⟨W.heap.size + 1, 1, none⟩ = false := by simp [World.frozen?_alloc_new]
  have hu : (((W.alloc (.cells #[.int .i64 p, .slice a n cap] 26)).alloc (.cells #[.int .i64 0, .slice none 0 0] 26))).heap.size = W.heap.size + 2 := by simp
  have HF := Lib.hid (And.intro f0 f1)
  have HR := Lib.hid (And.intro r0 r1)
  have HZ := Lib.hid (And.intro z0 z1)
  clear f0 f1 r0 r1 z0 z1
  go_enter Tryz.func78, Tryz.ntmps78
  go_wp2_with fail
  generalize ((W.alloc (.cells #[.int .i64 p, .slice a n cap] 26)).alloc (.cells #[.int .i64 0, .slice none 0 0] 26)) = u at *
  have hu1 : u.heap.size ≤ W.heap.size + 2 := by omega
  have hu2 : W.heap.size + 2 ≤ u.heap.size := by omega
  clear hu
  have d0 : u.drew.cell? ⟨W.heap.size, 0, none⟩ = _ := HF.out.1
  have d1 : u.drew.cell? ⟨W.heap.size, 1, none⟩ = _ := HF.out.2
  have bu : Below u.heap.size u (u.alloc (.cells #[] 70)).drew := ((Below.refl _ u).alloc (Nat.le_refl _) _).drew
  have k0 : (u.alloc (.cells #[] 70)).drew.cell? ⟨W.heap.size, 0, none⟩ = some (.int .i64 p) := ((bcell bu).1 _ _ (by omega)).trans HF.out.1
  have k1 : (u.alloc (.cells #[] 70)).drew.cell? ⟨W.heap.size, 1, none⟩ = some (.slice a n cap) := ((bcell bu).1 _ _ (by omega)).trans HF.out.2
  have hz2 : u.heap.size + 1 ≤ (u.alloc (.cells #[] 70)).drew.heap.size := by show _ ≤ (u.alloc (.cells #[] 70)).heap.size; simp
  have HO : OwnBars (u.alloc (.cells #[] 70)).drew u.heap.size (.slice (some ⟨u.heap.size, 0, none⟩) 0 0) [] := OwnBars.made u _ (Nat.le_refl _)
  have HS : BarsAt (u.alloc (.cells #[] 70)).drew a n l := HI.out.below ((hb0.alloc (by omega) _).drew)
  have e0 : W.heap.size < u.drew.heap.size := by show _ < u.heap.size; omega
  have e1 : W.heap.size + 1 < u.drew.heap.size := by show _ < u.heap.size; omega
  have HHO := Lib.hid HO
  have HHS := Lib.hid HS
  clear HO HS
  go_region_held3 (fun w' => w'.cell? ⟨W.heap.size, 0, none⟩ = some (.int .i64 p) ∧ w'.cell? ⟨W.heap.size, 1, none⟩ = some (.slice a n cap))
    (first | (with_reducible exact ⟨d0, d1⟩) | (with_reducible exact ⟨k0, k1⟩) | (with_reducible exact ⟨c0, c1⟩) | (go_keep))
    ((
         refine stepAppBars (by rfl) _ _ (by rfl) (by rfl) HHO.out (by rfl) HHS.out (by simp; omega) (by simp [World.drew]) ?_
         intro v' w1 ho hk ha
         rw [List.nil_append] at ho
         have HB := Lib.hid ho
         obtain ⟨a', c', rfl, hi'⟩ := ho.form
         clear ho
         have hnb : ∀ b, b < u.heap.size → ¬ (some b = Value.ownBlock (.slice (some ⟨u.heap.size, 0, none⟩) 0 0)) := fun b hb hh => by simp [Value.ownBlock] at hh; omega
         have c0 := (hk.cell (o := 0) (by omega) (hnb W.heap.size (by omega))).trans k0
         have c1 := (hk.cell (o := 1) (by omega) (hnb W.heap.size (by omega))).trans k1
         have q0 := ((hk.cell (o := 0) (by omega) (hnb (W.heap.size + 1) (by omega))).trans ((bcell bu).1 _ _ (by omega))).trans HR.out.1
         have q1 := ((hk.cell (o := 1) (by omega) (hnb (W.heap.size + 1) (by omega))).trans ((bcell bu).1 _ _ (by omega))).trans HR.out.2
         have y0 := ((hk.frozen (o := 0) (by omega) (hnb (W.heap.size + 1) (by omega))).trans ((bcell bu).2 _ _ (by omega))).trans HZ.out.1
         have y1 := ((hk.frozen (o := 1) (by omega) (hnb (W.heap.size + 1) (by omega))).trans ((bcell bu).2 _ _ (by omega))).trans HZ.out.2
         have hbw := (hb0.trans (bu.mono (by omega))).trans (hk.setOwn HHO.out (B := W.heap.size) (by omega) (by omega))
         have hsz := hk.size
         have q3 : W.heap.size < w1.heap.size := by omega
         have q4 : W.heap.size + 1 < w1.heap.size := by omega))
  go_wp2_with fail
  refine bodyPost_ret (v := .agg #[.int .i64 p, .slice a' l.length c']) (by simp [results, Tryz.results78, go_sem, q4, q0, q1]) rfl ⟨_, rfl, ⟨.slice a' l.length c', ⟨a', c', rfl, rfl⟩, ?_⟩, ?_⟩
  · exact ((HB.out.set (by simp; omega) _).set (by simp; omega) _).low (by omega)
  · exact (hbw.setCell (by simp) _).setCell (by simp) _
end Go.Proofs.YtfbmpkdjhhcnpaaGreat
