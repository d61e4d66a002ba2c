/- FlatSets of the program and of the reference. No condition but sizes. -/
import Derived.Test.YtkjoeogoebpkjaaAc
import Derived.Test.YtkjoeogoebpkjaaRig
import Derived.Test.YtkjoeogoebpkjaaNulM
import Derived.Test.YtkjoeogoebpkjaaApp4
import Derived.Deep.RegionHeld3
namespace Go.Proofs.Ytkjoeogoebpkjaa
open Go.RowKit Gr
set_option maxRecDepth 100000
set_option linter.unusedVariables false
set_option linter.unusedSimpArgs false

def triC (q : List PlaceT) (a b c : Nat) : List (List Int) := if col (plAt q a).1 (plAt q a).2 (plAt q b).1 (plAt q b).2 (plAt q c).1 (plAt q c).2 = true then [[(a : Int), b, c]] else []
def rowC (q : List PlaceT) (a b n : Nat) : List (List Int) := (List.range n).flatMap fun c => if b < c then triC q a b c else []
def rowB (q : List PlaceT) (a n N : Nat) : List (List Int) := (List.range n).flatMap fun b => if a < b then rowC q a b N else []
def rowA (q : List PlaceT) (n N : Nat) : List (List Int) := (List.range n).flatMap fun a => rowB q a N N
def flatL (f : FwT) : List (List Int) := if isFwB f = true then rowA f.2.2 f.2.2.length f.2.2.length else []
theorem rowC_succ {q : List PlaceT} {a b c : Nat} (h : b < c) : rowC q a b (c + 1) = rowC q a b c ++ triC q a b c := by simp [rowC, List.range_succ, h]
theorem rowB_succ {q : List PlaceT} {a b N : Nat} (h : a < b) : rowB q a (b + 1) N = rowB q a b N ++ rowC q a b N := by simp [rowB, List.range_succ, h]
theorem rowA_succ (q : List PlaceT) (a N : Nat) : rowA q (a + 1) N = rowA q a N ++ rowB q a N N := by simp [rowA, List.range_succ]
theorem rowC_zero (q : List PlaceT) (a b : Nat) : rowC q a b (b + 1) = [] := by
  unfold rowC
  rw [List.flatMap_eq_nil_iff]
  intro c hc
  rw [if_neg (by have := List.mem_range.1 hc; omega)]
theorem rowB_zero (q : List PlaceT) (a N : Nat) : rowB q a (a + 1) N = [] := by
  unfold rowB
  rw [List.flatMap_eq_nil_iff]
  intro c hc
  rw [if_neg (by have := List.mem_range.1 hc; omega)]
theorem flat_len {α : Type} {f : α → List (List Int)} {M : Nat} : ∀ (l : List α), (∀ x ∈ l, (f x).length ≤ M) → (l.flatMap f).length ≤ l.length * M
  | [], _ => by simp
  | x :: l, h => by
    have h1 := flat_len l fun y hy => h y (List.mem_cons_of_mem _ hy)
    have h2 := h x (List.mem_cons_self ..)
    rw [List.flatMap_cons, List.length_append, List.length_cons, Nat.succ_mul]; omega
theorem triC_len (q : List PlaceT) (a b c : Nat) : (triC q a b c).length ≤ 1 := by unfold triC; split <;> simp
theorem rowC_len (q : List PlaceT) (a b n : Nat) (h : n ≤ 6) : (rowC q a b n).length ≤ 6 := by
  have := flat_len (f := fun c => if b < c then triC q a b c else []) (M := 1) (List.range n) fun c _ => by split; exact triC_len _ _ _ _; simp
  rw [List.length_range] at this
  unfold rowC; omega
theorem rowB_len (q : List PlaceT) (a n N : Nat) (h : n ≤ 6) (h2 : N ≤ 6) : (rowB q a n N).length ≤ 36 := by
  have := flat_len (f := fun b => if a < b then rowC q a b N else []) (M := 6) (List.range n) fun c _ => by split; exact rowC_len _ _ _ _ h2; simp
  rw [List.length_range] at this
  unfold rowB; omega
theorem rowA_len (q : List PlaceT) (n N : Nat) (h : n ≤ 6) (h2 : N ≤ 6) : (rowA q n N).length ≤ 216 := by
  have := flat_len (f := fun a => rowB q a N N) (M := 36) (List.range n) fun c _ => rowB_len _ _ _ _ h2 h2
  rw [List.length_range] at this
  unfold rowA; omega
theorem rowA_row (q : List PlaceT) (n N : Nat) : ∀ r ∈ rowA q n N, r.length = 3 := by
  intro r hr
  unfold rowA at hr
  obtain ⟨a, _, hr⟩ := List.mem_flatMap.1 hr
  unfold rowB at hr
  obtain ⟨b, _, hr⟩ := List.mem_flatMap.1 hr
  split at hr
  · unfold rowC at hr
    obtain ⟨c, _, hr⟩ := List.mem_flatMap.1 hr
    split at hr
    · unfold triC at hr
      split at hr
      · simp at hr; subst hr; rfl
      · simp at hr
    · simp at hr
  · simp at hr
theorem sum_len {m : Nat} : ∀ {ll : List (List Int)}, (∀ r ∈ ll, r.length = m) → sumLen ll = ll.length * m
  | [], _ => by simp [sumLen]
  | r :: ll, h => by
    have h1 := sum_len (ll := ll) fun x hx => h x (List.mem_cons_of_mem _ hx)
    have h2 := h r (List.mem_cons_self ..)
    simp only [sumLen, List.map_cons, List.sum_cons, List.length_cons, Nat.succ_mul] at h1 ⊢
    omega
theorem flatL_sz (f : FwT) : szIntss (flatL f) ≤ 1048576 := by
  obtain ⟨p, l, q⟩ := f
  unfold flatL
  split
  · rename_i h
    have h1 := (isFw_facts h).1
    have h3 := (isFw_facts h).2.1
    have h4 : q.length ≤ 6 := by omega
    have h5 := rowA_len q _ _ h4 h4
    have h6 := sum_len (rowA_row q q.length q.length)
    unfold szIntss
    show (rowA q q.length q.length).length + sumLen (rowA q q.length q.length) ≤ _
    omega
  · decide
theorem OwnInts.lit {w : World} {base : Nat} (hb : base ≤ w.heap.size) (l : List Int) {n : Nat} (hn : l.length = n) (h1 : n ≤ 1000) : OwnInts (w.alloc (.cells (l.map (Value.int .i64)).toArray 3)) base (.slice (some ⟨w.heap.size, 0, none⟩) n n) l := by
  subst hn
  exact ⟨by simp, .inr ⟨w.heap.size, l.length, (l.map (Value.int .i64)).toArray, rfl, hb, heap_alloc_new w _, Nat.le_refl _, by unfold maxLen; omega, by simp, by simp [List.take_of_length_le]⟩⟩

set_option maxHeartbeats 4000000 in
theorem implFla_at (W : World) (p : Int) (a : Option Addr) (cap : Nat) (l : List BarT) (c : Option Addr) (capc : Nat) (q : List PlaceT) (h : BarsAt W a l.length l) (hq : PlacesAt W c q.length q) (hs : l.length + q.length ≤ 1048576) :
    Calls Try.prog 49 #[.agg #[.int .i64 p, .slice a l.length cap, .slice c q.length capc]] W (RetIntss W (flatL (p, l, q))) := by
  have hwd := @Wd.cells
  have HFw : Hid (IsFw W (.agg #[.int .i64 p, .slice a l.length cap, .slice c q.length capc]) (p, l, q)) := Lib.hid ⟨a, cap, c, capc, rfl, h, hq⟩
  have H1 := Lib.hid h
  have H2 := Lib.hid hq
  clear h hq
  have hsz : szFw (p, l, q) ≤ 1048576 := hs
  have hs1 : l.length ≤ 1048576 := by omega
  have hs2 : q.length ≤ 1048576 := by omega
  have B : Below W.heap.size W (W.alloc (.cells #[.int .i64 p, .slice a l.length cap, .slice c q.length capc] 42)) := (Below.refl _ _).alloc (Nat.le_refl _) _
  have BX : Hid (BoxFw (W.alloc (.cells #[.int .i64 p, .slice a l.length cap, .slice c q.length capc] 42)) W.heap.size p a l.length cap c q.length capc) := Lib.hid (BoxFw.at rfl)
  have hba : Below (W.alloc (.cells #[.int .i64 p, .slice a l.length cap, .slice c q.length capc] 42)).heap.size (W.alloc (.cells #[.int .i64 p, .slice a l.length cap, .slice c q.length capc] 42)) ((W.alloc (.cells #[.int .i64 p, .slice a l.length cap, .slice c q.length capc] 42)).alloc (.cells #[] 33)) := (Below.refl _ _).alloc (Nat.le_refl _) _
  have HO0 : Hid (OwnIntss ((W.alloc (.cells #[.int .i64 p, .slice a l.length cap, .slice c q.length capc] 42)).alloc (.cells #[] 33)) (W.heap.size + 1) (.slice (some ⟨W.heap.size + 1, 0, none⟩) 0 0) []) := Lib.hid (by have h9 := made_intss (W.alloc (.cells #[.int .i64 p, .slice a l.length cap, .slice c q.length capc] 42)); simpa using h9)
  have hzu : W.heap.size + 2 ≤ ((W.alloc (.cells #[.int .i64 p, .slice a l.length cap, .slice c q.length capc] 42)).alloc (.cells #[] 33)).heap.size := by simp
  replace B := B.step hba
  replace BX := Lib.hid (BX.out.below hba)
  clear hba
  cases hf : isFwB (p, l, q)
  · have HE := Lib.hid (show flatL (p, l, q) = [] by unfold flatL; rw [hf]; rfl)
    go_enter Try.func49, Try.ntmps49
    go_wp2_with fail
    generalize ((W.alloc (.cells #[.int .i64 p, .slice a l.length cap, .slice c q.length capc] 42)).alloc (.cells #[] 33)) = u at *
    refine (impl_IsFramework _ _ (p, l, q) (HFw.out.below B) hsz).mono ?_
    rintro e w1 ⟨rfl, b⟩
    have HO1 := Lib.hid (HO0.out.below b)
    replace B := B.step b
    rw [hf]
    go_wp2_with fail
    go_ret
    exact ⟨_, rfl, by rw [HE.out]; exact ownsRow_base' HO1.out (by omega), B⟩
  have HE := Lib.hid (show flatL (p, l, q) = rowA q q.length q.length by unfold flatL; rw [hf]; rfl)
  obtain ⟨⟨hg1, hg2⟩, hg3, hg4, _, _⟩ := isFw_facts hf
  have hq6 : q.length ≤ 6 := by omega
  clear hg3
  go_enter Try.func49, Try.ntmps49
  go_wp2_with fail
  generalize ((W.alloc (.cells #[.int .i64 p, .slice a l.length cap, .slice c q.length capc] 42)).alloc (.cells #[] 33)) = u0 at *
  refine (impl_IsFramework _ _ (p, l, q) (HFw.out.below B) hsz).mono ?_
  rintro e u ⟨rfl, b⟩
  have hzz := b.size
  replace HO0 := Lib.hid (HO0.out.below b)
  replace B := B.step b
  replace BX := Lib.hid (BX.out.below b)
  clear b
  rw [hf]
  obtain ⟨zBX, fBX0, fBX1, fBX2⟩ := BX.out
  go_wp2_with fail
  clear zBX fBX0 fBX1 fBX2
  go_loopw [3, 15] (fun s i w9 => ∃ a : Nat, a ≤ q.length ∧ i = .int .i64 a ∧ OwnIntss w9 (W.heap.size + 1) s (rowA q a q.length) ∧ Below (W.heap.size + 1) u w9) (fun _ i _ => q.length - (intOf i).toNat)
  case atStart => exact ⟨0, Nat.zero_le _, rfl, by simpa [rowA] using HO0.out, Below.refl _ _⟩
  case round =>
    obtain ⟨a, han, rfl, ho, hb⟩ := hrel
    have HW := Lib.hid ho
    clear ho
    by_cases hlt : a < q.length
    · go_wp2_with fail
      obtain ⟨wo, hwo⟩ : ∃ wo, wo = wr := ⟨_, rfl⟩
      subst hwo
      go_loopw [3, 5] (fun s i w9 => ∃ b : Nat, a + 1 ≤ b ∧ b ≤ q.length ∧ i = .int .i64 b ∧ OwnIntss w9 (W.heap.size + 1) s (rowA q a q.length ++ rowB q a b q.length) ∧ Below (W.heap.size + 1) u w9) (fun _ i _ => q.length - (intOf i).toNat)
      case atStart => exact ⟨a + 1, Nat.le_refl _, hlt, by go_num, by rw [rowB_zero, List.append_nil]; exact HW.out, hb⟩
      case round =>
        obtain ⟨b, hab, hbn, rfl, ho, hb⟩ := hrel
        have HW := Lib.hid ho
        clear ho
        have hbz := hb.size
        have B1 := B.trans (hb.mono (by omega))
        have f0 := (hb.cell (p := ⟨W.heap.size, 0, none⟩) (by simp)).trans BX.out.c0
        have f1 := (hb.cell (p := ⟨W.heap.size, 1, none⟩) (by simp)).trans BX.out.c1
        have f2 := (hb.cell (p := ⟨W.heap.size, 2, none⟩) (by simp)).trans BX.out.c2
        by_cases hlb : b < q.length
        · go_wp2_with fail
          clear f0 f1 f2
          obtain ⟨wo2, hwo⟩ : ∃ wo, wo = wr := ⟨_, rfl⟩
          subst hwo
          go_loopw [3, 6] (fun s i w9 => ∃ c : Nat, b + 1 ≤ c ∧ c ≤ q.length ∧ i = .int .i64 c ∧ OwnIntss w9 (W.heap.size + 1) s (rowA q a q.length ++ rowB q a b q.length ++ rowC q a b c) ∧ Below (W.heap.size + 1) u w9) (fun _ i _ => q.length - (intOf i).toNat)
          case atStart => exact ⟨b + 1, Nat.le_refl _, hlb, by go_num, by rw [rowC_zero, List.append_nil]; exact HW.out, hb⟩
          case round =>
            obtain ⟨c, hbc, hcn, rfl, ho, hb⟩ := hrel
            have HW := Lib.hid ho
            clear ho
            have hbz := hb.size
            have B1 := B.trans (hb.mono (by omega))
            have f0 := (hb.cell (p := ⟨W.heap.size, 0, none⟩) (by simp)).trans BX.out.c0
            have f1 := (hb.cell (p := ⟨W.heap.size, 1, none⟩) (by simp)).trans BX.out.c1
            have f2 := (hb.cell (p := ⟨W.heap.size, 2, none⟩) (by simp)).trans BX.out.c2
            by_cases hlc : c < q.length
            · obtain ⟨bq, oq, ⟨y1, t1⟩, rfl, hbq, hx1, hc1, hd1⟩ := (H2.out.below B1).2 a hlt
              obtain ⟨bq', oq', ⟨y2, t2⟩, hab', hbq', hx2, hc2, hd2⟩ := (H2.out.below B1).2 b hlb
              simp only [Option.some.injEq, Addr.mk.injEq, and_true] at hab'
              obtain ⟨rfl, rfl⟩ := hab'
              obtain ⟨bq', oq', ⟨y3, t3⟩, hab', hbq', hx3, hc3, hd3⟩ := (H2.out.below B1).2 c hlc
              simp only [Option.some.injEq, Addr.mk.injEq, and_true] at hab'
              obtain ⟨rfl, rfl⟩ := hab'
              dsimp only at hc1 hd1 hc2 hd2 hc3 hd3
              have hpe : plAt q a = (y1, t1) ∧ plAt q b = (y2, t2) ∧ plAt q c = (y3, t3) := by simp only [plAt, hx1, hx2, hx3, Option.getD_some, and_self]
              obtain ⟨hp1, hp2, hp3⟩ := hpe
              have hia : (a : Int) < (q.length : Int) := by omega
              have hib : (b : Int) < (q.length : Int) := by omega
              have hic : (c : Int) < (q.length : Int) := by omega
              have q1 : (0 : Int) ≤ (a : Int) := by omega
              have q2 : (0 : Int) ≤ (b : Int) := by omega
              have q3 : (0 : Int) ≤ (c : Int) := by omega
              have zz1 : W.heap.size < wr.heap.size := by omega
              have hcn2 : c + 1 ≤ q.length := hlc
              cases hcol : col y1 t1 y2 t2 y3 t3
              ·
                have HC : Hid (∀ w, Calls Try.prog 88 #[.agg #[.int .i64 y1, .int .i64 t1], .agg #[.int .i64 y2, .int .i64 t2], .agg #[.int .i64 y3, .int .i64 t3]] w fun e w' => e = .returned (.bool false) ∧ Below w.heap.size w w') := Lib.hid (fun w => by have := implCol_any y1 t1 y2 t2 y3 t3 w; rwa [hcol] at this)
                have HT := Lib.hid (show triC q a b c = [] by unfold triC; rw [hp1, hp2, hp3]; simp [hcol])
                clear hx1 hx2 hx3 hp1 hp2 hp3 hcol
                go_wp2_with fail
                refine wp_region_wd (by kernel_rfl) (by kernel_rfl) ?_
                repeat (go_big_quiet_step (first | (go_at_call 88; exact Calls.wd_of (HC.out _))))
                refine wpQuiet_nil ?_
                intro n1
                go_wp2_with fail
                go_roundw
                case rel => exact ⟨c + 1, by omega, hcn2, by go_num, by rw [rowC_succ (by omega), HT.out, List.append_nil]; exact HW.out.below n1.h, hb.trans (n1.h.mono (by omega))⟩
                case measure => simp [intOf]; omega
              ·
                have HC : Hid (∀ w, Calls Try.prog 88 #[.agg #[.int .i64 y1, .int .i64 t1], .agg #[.int .i64 y2, .int .i64 t2], .agg #[.int .i64 y3, .int .i64 t3]] w fun e w' => e = .returned (.bool true) ∧ Below w.heap.size w w') := Lib.hid (fun w => by have := implCol_any y1 t1 y2 t2 y3 t3 w; rwa [hcol] at this)
                have HT := Lib.hid (show triC q a b c = [[(a : Int), b, c]] by unfold triC; rw [hp1, hp2, hp3]; simp [hcol])
                clear hx1 hx2 hx3 hp1 hp2 hp3 hcol
                go_wp2_with fail
                refine wp_region_wd (by kernel_rfl) (by kernel_rfl) ?_
                repeat (go_big_quiet_step (first | (go_at_call 88; exact Calls.wd_of (HC.out _))))
                refine wpQuiet_nil ?_
                intro n1
                have HW1 := Lib.hid (HW.out.below n1.h)
                have hb1 := hb.trans (n1.h.mono (by omega))
                have hz1 := n1.h.size
                obtain ⟨wn, hwn⟩ : ∃ wn, wn = n1.w := ⟨_, rfl⟩
                rw [← hwn] at HW1 hb1 hz1 ⊢
                clear hwn
                have HU : Hid (OwnInts (wn.alloc (.cells #[.int .i64 a, .int .i64 b, .int .i64 c] 3)) (W.heap.size + 1) (.slice (some ⟨wn.heap.size, 0, none⟩) 3 3) [(a : Int), b, c]) := Lib.hid (OwnInts.lit (by omega) [(a : Int), b, c] rfl (by decide))
                have HB : Hid (Below wn.heap.size wn (wn.alloc (.cells #[.int .i64 a, .int .i64 b, .int .i64 c] 3))) := Lib.hid ((Below.refl _ _).alloc (Nat.le_refl _) _)
                obtain ⟨vs, hvs, hrs⟩ := HW1.out
                have HV := Lib.hid hvs
                have HVR := Lib.hid hrs
                clear hvs hrs
                have hlk : (rowA q a q.length ++ rowB q a b q.length ++ rowC q a b c).length < 1099511627776 := by
                  have e1 := rowA_len q a q.length (by omega) (by omega)
                  have e2 := rowB_len q a b q.length (by omega) (by omega)
                  have e3 := rowC_len q a b c (by omega)
                  simp only [List.length_append]; omega
                have HLK := Lib.hid hlk
                clear hlk
                go_wp2_with (at_builtin; refine appRow (by rfl) (.tmp 52) (.tmp 57) (by rfl) (by rfl) HU.out HB.out HV.out HVR.out (fun z hz => by simp [Value.ownBlock] at hz; omega) (by rw [World.size_alloc]; rfl) HLK.out (by simp; omega) ?_; intro v' w8 h8 k8)
                go_roundw
                case rel =>
                  refine ⟨c + 1, by omega, hcn2, by go_num, by rw [rowC_succ (by omega), HT.out, ← List.append_assoc]; exact h8, ?_⟩
                  have hvs := HV.out
                  exact hb1.trans ((HB.out.mono (by omega)).trans (k8.below (by simp; omega) fun z h1 h2 => by
                    have := (World.ownsRow.lt hvs z h2.symm).1
                    omega))
                case measure => simp [intOf]; omega
            · obtain rfl : c = q.length := by omega
              go_wp2_with fail
              go_roundw
              case rel => exact ⟨b + 1, by omega, by omega, by go_num, by rw [rowB_succ (by omega), ← List.append_assoc]; exact HW.out, hb⟩
              case measure => simp [intOf]; omega
        · obtain rfl : b = q.length := by omega
          go_wp2_with fail
          go_roundw
          case rel => exact ⟨a + 1, by omega, by go_num, by rw [rowA_succ]; exact HW.out, hb⟩
          case measure => simp [intOf]; omega
    · obtain rfl : a = q.length := by omega
      go_wp2_with fail
      go_ret
      exact ⟨_, rfl, by rw [HE.out]; exact ownsRow_base' HW.out (by omega), B.trans (hb.mono (by omega))⟩

set_option maxHeartbeats 4000000 in
theorem specFla_at (W : World) (p : Int) (a : Option Addr) (cap : Nat) (l : List BarT) (c : Option Addr) (capc : Nat) (q : List PlaceT) (h : BarsAt W a l.length l) (hq : PlacesAt W c q.length q) (hs : l.length + q.length ≤ 1048576) :
    Calls Try.prog 48 #[.agg #[.int .i64 p, .slice a l.length cap, .slice c q.length capc]] W (RetIntss W (flatL (p, l, q))) := by
  have hwd := @Wd.cells
  have HFw : Hid (IsFw W (.agg #[.int .i64 p, .slice a l.length cap, .slice c q.length capc]) (p, l, q)) := Lib.hid ⟨a, cap, c, capc, rfl, h, hq⟩
  have H1 := Lib.hid h
  have H2 := Lib.hid hq
  clear h hq
  have hsz : szFw (p, l, q) ≤ 1048576 := hs
  have hs1 : l.length ≤ 1048576 := by omega
  have hs2 : q.length ≤ 1048576 := by omega
  have B : Below W.heap.size W (W.alloc (.cells #[.int .i64 p, .slice a l.length cap, .slice c q.length capc] 42)) := (Below.refl _ _).alloc (Nat.le_refl _) _
  have BX : Hid (BoxFw (W.alloc (.cells #[.int .i64 p, .slice a l.length cap, .slice c q.length capc] 42)) W.heap.size p a l.length cap c q.length capc) := Lib.hid (BoxFw.at rfl)
  have hba : Below (W.alloc (.cells #[.int .i64 p, .slice a l.length cap, .slice c q.length capc] 42)).heap.size (W.alloc (.cells #[.int .i64 p, .slice a l.length cap, .slice c q.length capc] 42)) ((W.alloc (.cells #[.int .i64 p, .slice a l.length cap, .slice c q.length capc] 42)).alloc (.cells #[] 33)) := (Below.refl _ _).alloc (Nat.le_refl _) _
  have HO0 : Hid (OwnIntss ((W.alloc (.cells #[.int .i64 p, .slice a l.length cap, .slice c q.length capc] 42)).alloc (.cells #[] 33)) (W.heap.size + 1) (.slice (some ⟨W.heap.size + 1, 0, none⟩) 0 0) []) := Lib.hid (by have h9 := made_intss (W.alloc (.cells #[.int .i64 p, .slice a l.length cap, .slice c q.length capc] 42)); simpa using h9)
  have hzu : W.heap.size + 2 ≤ ((W.alloc (.cells #[.int .i64 p, .slice a l.length cap, .slice c q.length capc] 42)).alloc (.cells #[] 33)).heap.size := by simp
  replace B := B.step hba
  replace BX := Lib.hid (BX.out.below hba)
  clear hba
  cases hf : isFwB (p, l, q)
  · have HE := Lib.hid (show flatL (p, l, q) = [] by unfold flatL; rw [hf]; rfl)
    go_enter Try.func48, Try.ntmps48
    go_wp2_with fail
    generalize ((W.alloc (.cells #[.int .i64 p, .slice a l.length cap, .slice c q.length capc] 42)).alloc (.cells #[] 33)) = u at *
    go_loopw [3, 4] (fun s i w9 => s = .slice (some ⟨W.heap.size + 1, 0, none⟩) 0 0 ∧ i = .int .i64 0 ∧ u = w9) (fun _ _ _ => 0)
    case atStart => exact ⟨rfl, rfl, rfl⟩
    case round =>
      obtain ⟨rfl, rfl, rfl⟩ := hrel
      obtain ⟨zBX, fBX0, fBX1, fBX2⟩ := BX.out
      by_cases h0 : 0 < q.length
      · have h0i : (0 : Int) < (q.length : Int) := by omega
        go_wp2_with fail
        refine (spec_IsFramework _ _ (p, l, q) (HFw.out.below B) hsz).mono ?_
        rintro e w1 ⟨rfl, b⟩
        have HO1 := Lib.hid (HO0.out.below b)
        replace B := B.step b
        rw [hf]
        go_wp2_with fail
        go_ret
        exact ⟨_, rfl, by rw [HE.out]; exact ownsRow_base' HO1.out (by omega), B⟩
      · go_wp2_with fail
        go_ret
        exact ⟨_, rfl, by rw [HE.out]; exact ownsRow_base' HO0.out (by omega), B⟩
  have HE := Lib.hid (show flatL (p, l, q) = rowA q q.length q.length by unfold flatL; rw [hf]; rfl)
  obtain ⟨⟨hg1, hg2⟩, hg3, hg4, _, _⟩ := isFw_facts hf
  have hq6 : q.length ≤ 6 := by omega
  clear hg3
  go_enter Try.func48, Try.ntmps48
  go_wp2_with fail
  generalize ((W.alloc (.cells #[.int .i64 p, .slice a l.length cap, .slice c q.length capc] 42)).alloc (.cells #[] 33)) = u at *
  go_loopw [3, 4] (fun s i w9 => ∃ a : Nat, a ≤ q.length ∧ i = .int .i64 a ∧ OwnIntss w9 (W.heap.size + 1) s (rowA q a q.length) ∧ Below (W.heap.size + 1) u w9) (fun _ i _ => q.length - (intOf i).toNat)
  case atStart => exact ⟨0, Nat.zero_le _, rfl, by simpa [rowA] using HO0.out, Below.refl _ _⟩
  case round =>
    obtain ⟨a, han, rfl, ho, hb⟩ := hrel
    have HW := Lib.hid ho
    clear ho
    have hbz := hb.size
    have B1 := B.trans (hb.mono (by omega))
    have f0 := (hb.cell (p := ⟨W.heap.size, 0, none⟩) (by simp)).trans BX.out.c0
    have f1 := (hb.cell (p := ⟨W.heap.size, 1, none⟩) (by simp)).trans BX.out.c1
    have f2 := (hb.cell (p := ⟨W.heap.size, 2, none⟩) (by simp)).trans BX.out.c2
    by_cases hlt : a < q.length
    · have hia0 : (a : Int) < (q.length : Int) := by omega
      go_wp2_with fail
      refine (spec_IsFramework _ _ (p, l, q) (HFw.out.below B1) hsz).mono ?_
      rintro e wz ⟨rfl, b⟩
      replace HW := Lib.hid (HW.out.below b)
      replace hb := hb.trans (b.mono (by omega))
      rw [hf]
      clear f0 f1 f2 b B1 hbz
      go_wp2_with fail
      obtain ⟨wo, hwo⟩ : ∃ wo, wo = wz := ⟨_, rfl⟩
      subst hwo
      go_loopw [3, 5] (fun s i w9 => ∃ b : Nat, a + 1 ≤ b ∧ b ≤ q.length ∧ i = .int .i64 b ∧ OwnIntss w9 (W.heap.size + 1) s (rowA q a q.length ++ rowB q a b q.length) ∧ Below (W.heap.size + 1) u w9) (fun _ i _ => q.length - (intOf i).toNat)
      case atStart => exact ⟨a + 1, Nat.le_refl _, hlt, by go_num, by rw [rowB_zero, List.append_nil]; exact HW.out, hb⟩
      case round =>
        obtain ⟨b, hab, hbn, rfl, ho, hb⟩ := hrel
        have HW := Lib.hid ho
        clear ho
        have hbz := hb.size
        have B1 := B.trans (hb.mono (by omega))
        have f0 := (hb.cell (p := ⟨W.heap.size, 0, none⟩) (by simp)).trans BX.out.c0
        have f1 := (hb.cell (p := ⟨W.heap.size, 1, none⟩) (by simp)).trans BX.out.c1
        have f2 := (hb.cell (p := ⟨W.heap.size, 2, none⟩) (by simp)).trans BX.out.c2
        by_cases hlb : b < q.length
        · go_wp2_with fail
          clear f0 f1 f2
          obtain ⟨wo2, hwo⟩ : ∃ wo, wo = wr := ⟨_, rfl⟩
          subst hwo
          go_loopw [3, 6] (fun s i w9 => ∃ c : Nat, b + 1 ≤ c ∧ c ≤ q.length ∧ i = .int .i64 c ∧ OwnIntss w9 (W.heap.size + 1) s (rowA q a q.length ++ rowB q a b q.length ++ rowC q a b c) ∧ Below (W.heap.size + 1) u w9) (fun _ i _ => q.length - (intOf i).toNat)
          case atStart => exact ⟨b + 1, Nat.le_refl _, hlb, by go_num, by rw [rowC_zero, List.append_nil]; exact HW.out, hb⟩
          case round =>
            obtain ⟨c, hbc, hcn, rfl, ho, hb⟩ := hrel
            have HW := Lib.hid ho
            clear ho
            have hbz := hb.size
            have B1 := B.trans (hb.mono (by omega))
            have f0 := (hb.cell (p := ⟨W.heap.size, 0, none⟩) (by simp)).trans BX.out.c0
            have f1 := (hb.cell (p := ⟨W.heap.size, 1, none⟩) (by simp)).trans BX.out.c1
            have f2 := (hb.cell (p := ⟨W.heap.size, 2, none⟩) (by simp)).trans BX.out.c2
            by_cases hlc : c < q.length
            · obtain ⟨bq, oq, ⟨y1, t1⟩, rfl, hbq, hx1, hc1, hd1⟩ := (H2.out.below B1).2 a hlt
              obtain ⟨bq', oq', ⟨y2, t2⟩, hab', hbq', hx2, hc2, hd2⟩ := (H2.out.below B1).2 b hlb
              simp only [Option.some.injEq, Addr.mk.injEq, and_true] at hab'
              obtain ⟨rfl, rfl⟩ := hab'
              obtain ⟨bq', oq', ⟨y3, t3⟩, hab', hbq', hx3, hc3, hd3⟩ := (H2.out.below B1).2 c hlc
              simp only [Option.some.injEq, Addr.mk.injEq, and_true] at hab'
              obtain ⟨rfl, rfl⟩ := hab'
              dsimp only at hc1 hd1 hc2 hd2 hc3 hd3
              have hpe : plAt q a = (y1, t1) ∧ plAt q b = (y2, t2) ∧ plAt q c = (y3, t3) := by simp only [plAt, hx1, hx2, hx3, Option.getD_some, and_self]
              obtain ⟨hp1, hp2, hp3⟩ := hpe
              have hia : (a : Int) < (q.length : Int) := by omega
              have hib : (b : Int) < (q.length : Int) := by omega
              have hic : (c : Int) < (q.length : Int) := by omega
              have q1 : (0 : Int) ≤ (a : Int) := by omega
              have q2 : (0 : Int) ≤ (b : Int) := by omega
              have q3 : (0 : Int) ≤ (c : Int) := by omega
              have zz1 : W.heap.size < wr.heap.size := by omega
              have hcn2 : c + 1 ≤ q.length := hlc
              cases hcol : col y1 t1 y2 t2 y3 t3
              ·
                have HC : Hid (∀ w, Calls Try.prog 87 #[.agg #[.int .i64 y1, .int .i64 t1], .agg #[.int .i64 y2, .int .i64 t2], .agg #[.int .i64 y3, .int .i64 t3]] w fun e w' => e = .returned (.bool false) ∧ Below w.heap.size w w') := Lib.hid (fun w => by have := specCol_any y1 t1 y2 t2 y3 t3 w; rwa [hcol] at this)
                have HT := Lib.hid (show triC q a b c = [] by unfold triC; rw [hp1, hp2, hp3]; simp [hcol])
                clear hx1 hx2 hx3 hp1 hp2 hp3 hcol
                go_wp2_with fail
                refine wp_region_wd (by kernel_rfl) (by kernel_rfl) ?_
                repeat (go_big_quiet_step (first | (go_at_call 87; exact Calls.wd_of (HC.out _))))
                refine wpQuiet_nil ?_
                intro n1
                go_wp2_with fail
                go_roundw
                case rel => exact ⟨c + 1, by omega, hcn2, by go_num, by rw [rowC_succ (by omega), HT.out, List.append_nil]; exact HW.out.below n1.h, hb.trans (n1.h.mono (by omega))⟩
                case measure => simp [intOf]; omega
              ·
                have HC : Hid (∀ w, Calls Try.prog 87 #[.agg #[.int .i64 y1, .int .i64 t1], .agg #[.int .i64 y2, .int .i64 t2], .agg #[.int .i64 y3, .int .i64 t3]] w fun e w' => e = .returned (.bool true) ∧ Below w.heap.size w w') := Lib.hid (fun w => by have := specCol_any y1 t1 y2 t2 y3 t3 w; rwa [hcol] at this)
                have HT := Lib.hid (show triC q a b c = [[(a : Int), b, c]] by unfold triC; rw [hp1, hp2, hp3]; simp [hcol])
                clear hx1 hx2 hx3 hp1 hp2 hp3 hcol
                go_wp2_with fail
                refine wp_region_wd (by kernel_rfl) (by kernel_rfl) ?_
                repeat (go_big_quiet_step (first | (go_at_call 87; exact Calls.wd_of (HC.out _))))
                refine wpQuiet_nil ?_
                intro n1
                have HW1 := Lib.hid (HW.out.below n1.h)
                have hb1 := hb.trans (n1.h.mono (by omega))
                have hz1 := n1.h.size
                obtain ⟨wn, hwn⟩ : ∃ wn, wn = n1.w := ⟨_, rfl⟩
                rw [← hwn] at HW1 hb1 hz1 ⊢
                clear hwn
                have HU : Hid (OwnInts (wn.alloc (.cells #[.int .i64 a, .int .i64 b, .int .i64 c] 3)) (W.heap.size + 1) (.slice (some ⟨wn.heap.size, 0, none⟩) 3 3) [(a : Int), b, c]) := Lib.hid (OwnInts.lit (by omega) [(a : Int), b, c] rfl (by decide))
                have HB : Hid (Below wn.heap.size wn (wn.alloc (.cells #[.int .i64 a, .int .i64 b, .int .i64 c] 3))) := Lib.hid ((Below.refl _ _).alloc (Nat.le_refl _) _)
                obtain ⟨vs, hvs, hrs⟩ := HW1.out
                have HV := Lib.hid hvs
                have HVR := Lib.hid hrs
                clear hvs hrs
                have hlk : (rowA q a q.length ++ rowB q a b q.length ++ rowC q a b c).length < 1099511627776 := by
                  have e1 := rowA_len q a q.length (by omega) (by omega)
                  have e2 := rowB_len q a b q.length (by omega) (by omega)
                  have e3 := rowC_len q a b c (by omega)
                  simp only [List.length_append]; omega
                have HLK := Lib.hid hlk
                clear hlk
                go_wp2_with (at_builtin; refine appRow (by rfl) (.tmp 53) (.tmp 58) (by rfl) (by rfl) HU.out HB.out HV.out HVR.out (fun z hz => by simp [Value.ownBlock] at hz; omega) (by rw [World.size_alloc]; rfl) HLK.out (by simp; omega) ?_; intro v' w8 h8 k8)
                go_roundw
                case rel =>
                  refine ⟨c + 1, by omega, hcn2, by go_num, by rw [rowC_succ (by omega), HT.out, ← List.append_assoc]; exact h8, ?_⟩
                  have hvs := HV.out
                  exact hb1.trans ((HB.out.mono (by omega)).trans (k8.below (by simp; omega) fun z h1 h2 => by
                    have := (World.ownsRow.lt hvs z h2.symm).1
                    omega))
                case measure => simp [intOf]; omega
            · obtain rfl : c = q.length := by omega
              go_wp2_with fail
              go_roundw
              case rel => exact ⟨b + 1, by omega, by omega, by go_num, by rw [rowB_succ (by omega), ← List.append_assoc]; exact HW.out, hb⟩
              case measure => simp [intOf]; omega
        · obtain rfl : b = q.length := by omega
          go_wp2_with fail
          go_roundw
          case rel => exact ⟨a + 1, by omega, by go_num, by rw [rowA_succ]; exact HW.out, hb⟩
          case measure => simp [intOf]; omega
    · obtain rfl : a = q.length := by omega
      go_wp2_with fail
      go_ret
      exact ⟨_, rfl, by rw [HE.out]; exact ownsRow_base' HW.out (by omega), B1⟩

theorem spec_FlatSets (W : World) (v : Value) (f : FwT) (h : IsFw W v f) (hn : szFw f ≤ 1048576) : Calls Try.prog 48 #[v] W (RetIntss W (flatL f)) := by
  obtain ⟨p, l, q⟩ := f
  obtain ⟨a, cap, c, capc, rfl, hi, hj⟩ := h
  exact specFla_at _ _ _ _ _ _ _ _ hi hj hn
theorem impl_FlatSets (W : World) (v : Value) (f : FwT) (h : IsFw W v f) (hn : szFw f ≤ 1048576) : Calls Try.prog 49 #[v] W (RetIntss W (flatL f)) := by
  obtain ⟨p, l, q⟩ := f
  obtain ⟨a, cap, c, capc, rfl, hi, hj⟩ := h
  exact implFla_at _ _ _ _ _ _ _ _ hi hj hn
end Go.Proofs.Ytkjoeogoebpkjaa
