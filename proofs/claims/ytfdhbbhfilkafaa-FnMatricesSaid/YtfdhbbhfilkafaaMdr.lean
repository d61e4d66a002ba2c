/- What FnMatrices draws: l1New, l1Once, l1PickInt, l9Vector of the reference. No condition but sizes. -/
import Derived.Test.YtfdhbbhfilkafaaDrw
import Derived.Test.YtfdhbbhfilkafaaMx
import Derived.Test.YtfdhbbhfilkafaaMat2
import Derived.OwnWalk
namespace Go.Proofs.Ytfdhbbhfilkafaa
open Go.RowKit
set_option maxRecDepth 100000
set_option linter.unusedVariables false
set_option linter.unusedSimpArgs false
theorem Kept.on {S T : Nat → Prop} {a b c : World} (h : Kept S a b) (k : Kept T b c) (hT : ∀ i, i < a.heap.size → T i → S i) : Kept S a c :=
  ⟨k.os.trans h.os, k.tape.trans h.tape, k.output.trans h.output, Nat.le_trans h.size k.size, fun i hi hs => (k.block i (Nat.lt_of_lt_of_le hi h.size) fun ht => hs (hT i hi ht)).trans (h.block i hi hs)⟩
theorem OwnInts.on {w w' : World} {base g : Nat} {v : Value} {xs : List Int} (h : OwnInts w base v xs) (k : Kept (fun b => b = g) w w') (hg : g < base) : OwnInts w' base v xs :=
  k.ownsRow h fun b h1 h2 => by have := (h.lt b h1).1; omega
theorem OwnInts.ge {w : World} {base : Nat} {v : Value} {xs : List Int} (h : OwnInts w base v xs) (k : Nat) (hk : some k = v.ownBlock) : base ≤ k := (h.lt k hk.symm).1
set_option maxHeartbeats 4000000 in
theorem l1New_at (W : World) (ca : Option Addr) (n cap : Nat) (l : List Int) (hB : BytesAt W ca n l) (hn : n ≤ 1048576) : Calls Try.prog 58 #[.slice ca n cap] W fun e w' => ∃ g, e = .returned (.pointer (some ⟨g, 0, none⟩)) ∧ Drw W w' g ca n cap l := by
  have HB := Lib.hid hB
  clear hB
  go_enter Try.func58, Try.ntmps58
  go_wp2_with fail
  go_loopw [3, 4] (fun h i w9 => ∃ (k : Nat) (x : Int), k ≤ n ∧ h = .int .i64 x ∧ i = .int .i64 k ∧ W = w9) (fun _ i _ => n - (intOf i).toNat)
  case atStart => exact ⟨0, _, Nat.zero_le _, rfl, rfl, rfl⟩
  case round =>
    obtain ⟨k, x, hk, rfl, rfl, rfl⟩ := hrel
    have hfin : ∀ x : Int, Drw W (W.alloc (.cells #[.slice ca n cap, .int .i64 0, .int .i64 x] 99)) W.heap.size ca n cap l := fun x =>
      ⟨belAl _ _, Nat.le_refl _, by simp, by simp, ⟨0, Nat.zero_le _, by simp⟩, ⟨x, by simp⟩, by simp [World.frozen?_alloc_new], by simp [World.frozen?_alloc_new]⟩
    by_cases hlt : k < n
    · have hki : (k : Int) < (n : Int) := by omega
      by_cases h4 : (k : Int) < 4000
      · obtain ⟨b, off, y, rfl, hb, hy, hc, hy0, hy1⟩ := HB.out.2 k hlt
        have hk0 : (0 : Int) ≤ (k : Int) := by omega
        go_wp2_with fail
        go_roundw
        case rel => exact ⟨k + 1, _, by omega, rfl, by go_num, trivial⟩
        case measure => simp [intOf]; omega
      · go_wp2_with fail
        go_ret
        exact ⟨_, rfl, hfin _⟩
    · have hki : ¬ (k : Int) < (n : Int) := by omega
      go_wp2_with fail
      go_ret
      exact ⟨_, rfl, hfin _⟩
/-- a truth that is drawn -/
def RetDb (W0 w : World) (g : Nat) (ca : Option Addr) (n cap : Nat) (l : List Int) (e : Ending) (w' : World) : Prop := ∃ x : Bool, e = .returned (.bool x) ∧ Drw W0 w' g ca n cap l ∧ Kept (fun b => b = g) w w'
set_option maxHeartbeats 4000000 in
theorem l1Once_at (W0 w : World) (g : Nat) (ca : Option Addr) (n cap : Nat) (l : List Int) (hB : BytesAt W0 ca n l) (hn : n ≤ 1099511627776) (h : Drw W0 w g ca n cap l) (m : Int) (hm : 1 ≤ m ∧ m ≤ 256) : Calls Try.prog 94 #[.pointer (some ⟨g, 0, none⟩), .int .i64 m] w (RetDb W0 w g ca n cap l) := by
  have HC := Lib.hid (l1Below_at W0 w g ca n cap l hB hn h m hm)
  clear hB h
  go_enter Try.func94, Try.ntmps94
  go_wp2_with fail
  refine HC.out.mono ?_
  rintro e w1 ⟨x, hx, rfl, d1, k1⟩
  have D1 := Lib.hid d1
  have K1 := Lib.hid k1
  clear d1 k1 HC
  go_wp2_with fail
  go_ret
  exact ⟨_, rfl, D1.out, K1.out⟩
set_option maxHeartbeats 4000000 in
theorem l1PickInt_at (W0 w : World) (g : Nat) (ca : Option Addr) (n cap : Nat) (l : List Int) (hB : BytesAt W0 ca n l) (hn : n ≤ 1099511627776) (h : Drw W0 w g ca n cap l) {base : Nat} (hg : g < base) {v : Value} {xs : List Int} (ho : OwnInts w base v xs) (hx1 : 1 ≤ xs.length) (hx2 : xs.length ≤ 256) :
    Calls Try.prog 93 #[.pointer (some ⟨g, 0, none⟩), v] w fun e w' => ∃ x, x ∈ xs ∧ e = .returned (.int .i64 x) ∧ Drw W0 w' g ca n cap l ∧ Kept (fun b => b = g) w w' := by
  have HO := Lib.hid ho
  obtain ⟨a, c, rfl, hi⟩ := HO.out.form
  have HC := Lib.hid (l1Below_at W0 w g ca n cap l hB hn h xs.length (by omega))
  clear hB h hi ho
  go_enter Try.func93, Try.ntmps93
  go_wp2_with fail
  refine HC.out.mono ?_
  rintro e w1 ⟨x, hx, rfl, d1, k1⟩
  have D1 := Lib.hid d1
  have K1 := Lib.hid k1
  have HO1 : Hid (OwnInts w1 base (.slice a xs.length c) xs) := Lib.hid (k1.ownsRow HO.out fun k h1 h2 => by have := (HO.out.lt k h1).1; omega)
  clear d1 k1 HC
  obtain ⟨k, rfl⟩ : ∃ k : Nat, x = k := ⟨x.toNat, by omega⟩
  obtain ⟨a9, c9, e9, i9⟩ := HO1.out.form
  simp at e9
  obtain ⟨rfl, rfl⟩ := e9
  obtain ⟨b, off, y, rfl, hb, hy, hc⟩ := i9.2 k (by omega)
  have hki : (k : Int) < (xs.length : Int) := by omega
  have hk0 : (0 : Int) ≤ (k : Int) := by omega
  have HY := Lib.hid hy
  clear hy i9 hx
  go_wp2_with fail
  go_ret
  exact ⟨y, List.mem_of_getElem? HY.out, rfl, D1.out, K1.out⟩
set_option maxHeartbeats 4000000 in
theorem l9Vector_at (W0 w : World) (g : Nat) (ca : Option Addr) (n cap : Nat) (l : List Int) (hB : BytesAt W0 ca n l) (hn : n ≤ 1099511627776) (h : Drw W0 w g ca n cap l) (m : Nat) (hm : m ≤ 1000) :
    Calls Try.prog 91 #[.pointer (some ⟨g, 0, none⟩), .int .i64 m] w fun e w' => ∃ v xs, e = .returned v ∧ OwnInts w' w.heap.size v xs ∧ xs.length = m ∧ (∀ x ∈ xs, -6 ≤ x ∧ x ≤ 6) ∧ Drw W0 w' g ca n cap l ∧ Kept (fun b => b = g) w w' := by
  have HD : Hid (∀ w9, Drw W0 w9 g ca n cap l → Calls Try.prog 92 #[.pointer (some ⟨g, 0, none⟩), .int .i64 13] w9 (RetDi W0 w9 g ca n cap l 0 12)) := Lib.hid fun w9 h9 => l1Below_at W0 w9 g ca n cap l hB hn h9 13 (by decide)
  have hgw := h.hi
  have hg0 := h.low
  have ba := belAl w (.cells #[] 3)
  have HO0 := Lib.hid (OwnInts.made w w.heap.size (Nat.le_refl _))
  have D0 := Lib.hid (h.below ba)
  have K0 := Lib.hid (Kept.of_below (S := fun b => b = g) ba)
  clear hB h ba
  go_enter Try.func91, Try.ntmps91
  go_wp2_with fail
  generalize (w.alloc (.cells #[] 3)) = u at *
  go_loopw [5, 6] (fun o i w9 => ∃ xs : List Int, xs.length ≤ m ∧ i = .int .i64 xs.length ∧ OwnInts w9 w.heap.size o xs ∧ (∀ x ∈ xs, -6 ≤ x ∧ x ≤ 6) ∧ Drw W0 w9 g ca n cap l ∧ Kept (fun b => b = g) w w9) (fun _ i _ => m - (intOf i).toNat)
  case atStart => exact ⟨[], Nat.zero_le _, rfl, HO0.out, by simp, D0.out, K0.out⟩
  case round =>
    clear HO0 D0 K0
    obtain ⟨xs, hk, rfl, ho, hxs, hd, hkp⟩ := hrel
    have HO := Lib.hid ho
    have HX := Lib.hid hxs
    have D := Lib.hid hd
    have K := Lib.hid hkp
    clear ho hxs hd hkp
    by_cases hlt : xs.length < m
    · have hki : (xs.length : Int) < (m : Int) := by omega
      go_wp2_with fail
      refine (HD.out wr D.out).mono ?_
      rintro e w1 ⟨x, hx, rfl, d1, k1⟩
      have D1 := Lib.hid d1
      have K1 := Lib.hid (K.out.trans k1)
      have HO1 := Lib.hid (HO.out.on k1 hgw)
      have hz1 := K1.out.size
      have hw := IntWalk.i64_in (x - 6) (by omega)
      clear d1 k1
      go_wp2_with (at_builtin; refine app1At rfl (.tmp 13) (.tmp 17) rfl rfl HO1.out (x - 6) rfl (by omega) (by omega) ?_; intro v5 w5 h5 k5 a5)
      have HB := Lib.hid (HO1.out.ge)
      go_roundw
      case rel => exact ⟨xs ++ [x - 6], by simp; omega, by simp, h5, (fun y hy => by
        rcases List.mem_append.1 hy with h1 | h1
        · exact HX.out y h1
        · simp at h1; omega), D1.out.kept k5 (fun e => by have := HB.out _ e; omega) (fun b hb e => by have := HB.out _ e; omega), K1.out.on k5 fun i hi e => by have := HB.out _ e; omega⟩
      case measure => simp [intOf]; omega
    · have hml : xs.length = m := by omega
      have hki : ¬ (xs.length : Int) < (m : Int) := by omega
      have HML := Lib.hid hml
      clear hml
      go_wp2_with fail
      go_ret
      exact ⟨_, rfl, xs, HO.out, HML.out, HX.out, D.out, K.out⟩
end Go.Proofs.Ytfdhbbhfilkafaa
