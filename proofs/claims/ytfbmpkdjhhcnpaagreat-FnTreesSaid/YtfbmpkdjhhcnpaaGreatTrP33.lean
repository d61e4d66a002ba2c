/- The search for packed trees of the reference (l8Put). No condition but sizes. -/
import Derived.Test.YtfbmpkdjhhcnpaaGreatTrP31
import Derived.Test.YtfbmpkdjhhcnpaaGreatTrP04
import Derived.Test.YtfbmpkdjhhcnpaaGreatTrP03
import Derived.Test.YtfbmpkdjhhcnpaaGreatTrP32
import Derived.OwnWalk
import Derived.Deep.QuietTactic
import Derived.BigQuiet
namespace Go.Proofs.YtfbmpkdjhhcnpaaGreat
open Go.RowKit
set_option maxRecDepth 100000
set_option linter.unusedVariables false
set_option linter.unusedSimpArgs false
/-- the rows come back as they were -/
theorem MatO.back {W w : World} {base g n cap : Nat} {vs : List Value} {ll : List (List Int)} (h : MatO W base g n cap vs ll) {i : Nat} {v u : Value} {r : List Int} (hu : vs[i]? = some u) (hk : Kept (fun b => b = g) W w) (hw : MatO w base g n cap (vs.set i v) (ll.set i r)) : MatO (w.setCell ⟨g, i, none⟩ u) base g n cap vs ll := by
  have hil := lt_of_getElem? hu
  have h1 := ownsRow_set (k := i) hw.out u
  rw [List.set_set] at h1
  have h2 : vs.set i u = vs := by
    refine List.ext_getElem? fun j => ?_
    by_cases e : i = j
    · subst e
      rw [List.getElem?_set_self hil, hu]
    · rw [List.getElem?_set_ne e]
  rw [h2] at h1
  refine ⟨h1, h.rows.kept (S := fun b => b = g) (hk.trans (keptSet rfl)) fun q hq b h3 h4 => ?_⟩
  obtain ⟨s, hs⟩ := h.rows.mem hq
  subst h4
  exact outer_apart h.out hs b rfl h3
/-- some sets in memory, given back as found or filled -/
def RetPut (W : World) (base g k cap : Nat) (vs : List Value) (S : SetsT) (res : Option SetsT) (e : Ending) (w' : World) : Prop :=
  Kept (fun b => b = g) W w' ∧ match res with
    | none => e = .returned (.bool false) ∧ MatO w' base g k cap vs S
    | some S' => e = .returned (.bool true) ∧ ∃ vs', MatO w' base g k cap vs' S'
theorem RetPut.no {W : World} {base g k cap : Nat} {vs : List Value} {S : SetsT} {res : Option SetsT} {w' : World} (hr : res = none) (h : Kept (fun b => b = g) W w') (hm : MatO w' base g k cap vs S) : RetPut W base g k cap vs S res (.returned (.bool false)) w' := by
  subst hr; exact ⟨h, rfl, hm⟩
theorem RetPut.yes {W : World} {base g k cap : Nat} {vs vs' : List Value} {S S' : SetsT} {res : Option SetsT} {w' : World} (hr : res = some S') (h : Kept (fun b => b = g) W w') (hm : MatO w' base g k cap vs' S') : RetPut W base g k cap vs S res (.returned (.bool true)) w' := by
  subst hr; exact ⟨h, rfl, vs', hm⟩
/-- the empty sets come last -/
def Last (k : Nat) (S : SetsT) : Prop := ∀ i j, i ≤ j → j < k → setA S i = [] → setA S j = []
theorem Last.add {k i : Nat} {S : SetsT} {x : Int} (h : Last k S) (hl : S.length = k) (hi : i < k) (hb : ∀ j, j < i → setA S j ≠ []) : Last k (S.set i (setA S i ++ [x])) := by
  intro a b hab hbk he
  rw [setA_set (by omega)] at he ⊢
  have ha : a ≠ i := fun e => by rw [if_pos e] at he; exact absurd he (by simp)
  rw [if_neg ha] at he
  have hia : ¬ a < i := fun hlt => hb a hlt he
  rw [if_neg (by omega)]
  exact h a b hab hbk he
set_option maxHeartbeats 8000000 in
theorem specPut_at (P : Nat) (a : Option Addr) (gcap : Nat) (l : List BarT) (hg : isGraphB ((P : Int), l) = true) (k : Nat) (hk : k ≤ 3) : ∀ (d e : Nat) (S : SetsT) (vs : List Value) (W : World) (base g cap : Nat), d + e = l.length → SetsOk k e S → Last k S → MatO W base g k cap vs S →
    (∀ w, Kept (fun b => b = g) W w → BarsAt w a l.length l) →
    Calls Tryz.prog 53 #[.agg #[.int .i64 (P : Int), .slice a l.length gcap], .int .i64 (k : Int), .int .i64 (e : Int), .slice (some ⟨g, 0, none⟩) k cap] W (RetPut W base g k cap vs S (fillS (forF l) k d e S))
  | 0, e, S, vs, W, base, g, cap, hde, hok, hla, hm, hB => by
    obtain rfl : e = l.length := by omega
    have ba := belAl W (.cells #[.int .i64 (P : Int), .slice a l.length gcap] 26)
    have hm2 := Lib.hid (hm.below ba)
    have hk2 : Kept (fun b => b = g) W (W.alloc (.cells #[.int .i64 (P : Int), .slice a l.length gcap] 26)) := Kept.of_below ba
    go_enter Tryz.func53, Tryz.ntmps53
    go_wp2_with fail
    go_ret
    exact RetPut.yes rfl hk2 hm2.out
  | d + 1, e, S, vs, W, base, g, cap, hde, hok, hla, hm, hB => by
    have IH := Lib.hid (specPut_at P a gcap l hg k hk d (e + 1))
    have he : e < l.length := by omega
    have HOK := Lib.hid hok
    have HLA := Lib.hid hla
    have HM := Lib.hid hm
    have HB := Lib.hid hB
    have HG := Lib.hid hg
    obtain ⟨_, hll⟩ := isGraphB_bd hg
    have hSl := hok.len
    have hFS := Lib.hid (fillS_succ (forF l) k d e S)
    have hgz := hm.blk
    clear hok hla hm hB
    have hei : ((e : Int) == (l.length : Int)) = false := by rw [beq_eq_false_iff_ne]; omega
    have ba := belAl W (.cells #[.int .i64 (P : Int), .slice a l.length gcap] 26)
    have hm2 := Lib.hid (HM.out.below ba)
    have hk2 : Kept (fun b => b = g) W (W.alloc (.cells #[.int .i64 (P : Int), .slice a l.length gcap] 26)) := Kept.of_below ba
    have BG : Hid (BoxGr (W.alloc (.cells #[.int .i64 (P : Int), .slice a l.length gcap] 26)) W.heap.size P a l.length gcap) := Lib.hid (BoxGr.at rfl)
    have hzz : W.heap.size + 1 ≤ (W.alloc (.cells #[.int .i64 (P : Int), .slice a l.length gcap] 26)).heap.size := by simp
    clear ba
    generalize hF : fillS (forF l) k (d + 1) e S = R at *
    generalize hD : d + 1 = D at *
    have HFD := Lib.hid (And.intro hF hD)
    clear hF hD
    go_enter Tryz.func53, Tryz.ntmps53
    go_wp2_with fail
    generalize (W.alloc (.cells #[.int .i64 (P : Int), .slice a l.length gcap] 26)) = u at *
    go_loopw [9] (fun s w9 => ∃ i : Nat, i ≤ k ∧ s = .int .i64 i ∧ (∀ j, j < i → tryS (forF l) k d e S j = none) ∧ (∀ j, j < i → setA S j ≠ []) ∧ MatO w9 base g k cap vs S ∧ Kept (fun b => b = g) W w9 ∧ BoxGr w9 W.heap.size P a l.length gcap ∧ W.heap.size + 1 ≤ w9.heap.size) (fun s _ => k - (intOf s).toNat)
    case atStart => exact ⟨0, Nat.zero_le _, rfl, fun j hj => absurd hj (Nat.not_lt_zero _), fun j hj => absurd hj (Nat.not_lt_zero _), hm2.out, hk2, BG.out, hzz⟩
    case round =>
      clear hm2 hk2 BG hzz
      obtain ⟨i, hi, rfl, hno, hne, hm, hkp, bg, hzz⟩ := hrel
      have HN := Lib.hid hno
      have HE := Lib.hid hne
      have HM2 := Lib.hid hm
      have HK := Lib.hid hkp
      have BG := Lib.hid bg
      clear hno hne hm hkp bg
      by_cases hik : i < k
      · obtain ⟨u0, r0, hu, hr0, ho0⟩ := HM2.out.rows.get (k := i) (by omega)
        rw [setA_get (by omega)] at hr0
        obtain rfl := Option.some.inj hr0
        have HU := Lib.hid hu
        have c0 := World.ownsRow.cellAt HM2.out.out i (by have := HM2.out.len; omega)
        rw [hu] at c0
        obtain ⟨ab, cb, rfl, hib⟩ := ho0.form
        have HIB := Lib.hid hib
        have HO0 := Lib.hid ho0
        have hlen := HOK.out.lenA i
        clear hu hr0 hib ho0
        have hii : (i : Int) < (k : Int) := by omega
        have hi0 : (0 : Int) ≤ (i : Int) := by omega
        have gz2 := HM2.out.blk
        have fz := HM2.out.froz i
        obtain ⟨r', hr'⟩ : ∃ r', r' = setA S i ++ [(e : Int)] := ⟨_, rfl⟩
        have HR' := Lib.hid hr'
        have hrl : r'.length ≤ 1048576 := by rw [hr', List.length_append]; simp; omega
        clear hr'
        go_wp2_with (first
          | (at_builtin; refine appAll rfl (.tmp 27) (.tmp 28) rfl rfl (made_intsS wr) rfl (HIB.out.below (belAl wr _)) (by simp; omega) (by simp) ?_; intro v1 w1 o1 k1; rw [List.nil_append] at o1; have b1 : Below wr.heap.size wr w1 := (belAl wr _).trans (k1.setOwn (made_intsS wr) (Nat.le_refl _) (by simp)))
          | (at_builtin; refine app1At rfl (.tmp 29) (.tmp 31) rfl rfl o1 (e : Int) rfl (by omega) b1.size ?_; intro v5 w5 h5 k5 a5; rw [← HR'.out] at h5; have b5 : Below wr.heap.size wr w5 := b1.trans (k5.setOwn o1 (Nat.le_refl _) b1.size); have c5 := (b5.cell (p := ⟨g, i, none⟩) gz2.1).trans c0; have f5 := ((bcell b5).2 g i gz2.1).trans fz; have z5 : g < w5.heap.size := Nat.lt_of_lt_of_le gz2.1 b5.size; have H5 := Lib.hid h5; obtain ⟨a5, q5, rfl, i5⟩ := h5.form; have HI5 := Lib.hid i5; clear i5 a5 k5))
        have HM6 : Hid (MatO (w5.setCell ⟨g, i, none⟩ (.slice a5 r'.length q5)) base g k cap (vs.set i (.slice a5 r'.length q5)) (S.set i r')) := Lib.hid (HM2.out.put HU.out (setA_get (by omega)) (Kept.of_below b5) (ownsRow_base H5.out (by omega)) (.inr fun b hb => (H5.out.lt b hb).1))
        have HUL : Hid (i < vs.length) := Lib.hid (by have := HM.out.len; omega)
        have hgi : g ≠ W.heap.size := by omega
        have hk6 := HK.out.trans ((Kept.of_below (S := fun b => b = g) b5).trans (keptSet (b := g) (j := i) (x := .slice a5 r'.length q5) rfl))
        have HK6 := Lib.hid hk6
        have BG6 := Lib.hid ((BG.out.below b5).kept (keptSet (S := fun b => b = g) (b := g) (j := i) (x := .slice a5 r'.length q5) rfl) (by omega))
        have c6 : (w5.setCell ⟨g, i, none⟩ (.slice a5 r'.length q5)).cell? ⟨g, i, none⟩ = some (.slice a5 r'.length q5) := World.cell?_setCell_same _ _ _ c5
        have hz6 : W.heap.size + 1 ≤ (w5.setCell ⟨g, i, none⟩ (.slice a5 r'.length q5)).heap.size := by have := b5.size; simp; omega
        have z6 : g < (w5.setCell ⟨g, i, none⟩ (.slice a5 r'.length q5)).heap.size := by simp; omega
        have HOKA := Lib.hid (HOK.out.add hik)
        have HLAA := Lib.hid (Last.add (x := (e : Int)) HLA.out hSl hik HE.out)
        have HFR := Lib.hid (frst_for HG.out HOK.out hik he)
        have HTR : Hid (tryS (forF l) k d e S i = if forF l r' = true then fillS (forF l) k d (e + 1) (S.set i r') else none) := Lib.hid (by rw [HR'.out]; rfl)
        rw [← HR'.out] at HOKA HLAA HFR
        clear hk6 c5 f5 z5 H5 HI5 b5 o1 b1 k1 fz gz2
        generalize (w5.setCell ⟨g, i, none⟩ (.slice a5 r'.length q5)) = w6 at *
        have bd : Below w6.heap.size w6 w6.drew := (Below.refl _ _).drew
        have HMd := Lib.hid (HM6.out.below bd)
        have HKd := Lib.hid (HK6.out.trans (Kept.of_below (S := fun b => b = g) bd))
        have BGd := Lib.hid (BG6.out.below bd)
        have cd : w6.drew.cell? ⟨g, i, none⟩ = some (.slice a5 r'.length q5) := c6
        have zd : g < w6.drew.heap.size := z6
        have hzd : W.heap.size + 1 ≤ w6.drew.heap.size := hz6
        have s0 : w6.drew.cell? ⟨W.heap.size, 0, none⟩ = some (.int .i64 (P : Int)) ∧ w6.drew.cell? ⟨W.heap.size, 1, none⟩ = some (.slice a l.length gcap) ∧ w6.drew.cell? ⟨g, i, none⟩ = some (.slice a5 r'.length q5) := ⟨BGd.out.c0, BGd.out.c1, cd⟩
        refine wp_regionZ (fun w' => w'.cell? ⟨W.heap.size, 0, none⟩ = some (.int .i64 (P : Int)) ∧ w'.cell? ⟨W.heap.size, 1, none⟩ = some (.slice a l.length gcap) ∧ w'.cell? ⟨g, i, none⟩ = some (.slice a5 r'.length q5)) 12 (by kernel_rfl) ?_
        clear bd HM6 HK6 BG6 c6 z6 hz6 HM2 HK BG hzz
        generalize w6.drew = wd at *
        have HID : Hid (IntsAt wd a5 r'.length r') := Lib.hid (by
          have h1 := HMd.out.rows.own i (.slice a5 r'.length q5) r' (by rw [List.getElem?_set_self HUL.out]) (by rw [List.getElem?_set_self (by omega)])
          obtain ⟨a9, c9, e9, i9⟩ := h1.form
          simp at e9
          rw [e9.1]; exact i9)
        have HCF := Lib.hid (specFrs_at wd P a gcap l (HB.out _ HKd.out) (by omega) a5 r'.length q5 r' HID.out (by omega))
        rw [HFR.out] at HCF
        refine wpAnyZ_takeC (i := 0) (v := ?_) [5, 6, 12] rfl (by kernel_rfl) (by kernel_rfl) (by kernel_rfl) (by kernel_rfl) (by kernel_rfl) (by kernel_rfl) (fun _ _ _ h => h) (s0) (by rfl) ?_ ?_
        rotate_left
        · intro x hx; obtain ⟨u1, u2, u3⟩ := hx; go_simp; try (with_reducible rfl)
        try simp only [Act.put, List.setIfInBounds_toArray, List.set_cons_zero, List.set_cons_succ, List.getElem_toArray, List.getElem_cons_zero, List.getElem_cons_succ]
        refine wpAnyZ_takeC (i := 1) (v := ?_) [3, 4, 5, 6, 12] rfl (by kernel_rfl) (by kernel_rfl) (by kernel_rfl) (by kernel_rfl) (by kernel_rfl) (by kernel_rfl) (fun _ _ _ h => h) (s0) (by rfl) ?_ ?_
        rotate_left
        · intro x hx; obtain ⟨u1, u2, u3⟩ := hx; go_simp; try (with_reducible rfl)
        try simp only [Act.put, List.setIfInBounds_toArray, List.set_cons_zero, List.set_cons_succ, List.getElem_toArray, List.getElem_cons_zero, List.getElem_cons_succ]
        refine wpAnyZ_takeC (i := 2) (v := ?_) [3, 4, 5, 6, 12] rfl (by kernel_rfl) (by kernel_rfl) (by kernel_rfl) (by kernel_rfl) (by kernel_rfl) (by kernel_rfl) (fun _ _ _ h => h) (s0) (by rfl) ?_ ?_
        rotate_left
        · intro x hx; obtain ⟨u1, u2, u3⟩ := hx; go_simp; try (with_reducible rfl)
        try simp only [Act.put, List.setIfInBounds_toArray, List.set_cons_zero, List.set_cons_succ, List.getElem_toArray, List.getElem_cons_zero, List.getElem_cons_succ]
        refine wpAnyZ_takeC (i := 3) (v := ?_) [4, 5, 6, 12] rfl (by kernel_rfl) (by kernel_rfl) (by kernel_rfl) (by kernel_rfl) (by kernel_rfl) (by kernel_rfl) (fun _ _ _ h => h) (s0) (by rfl) ?_ ?_
        rotate_left
        · intro x hx; obtain ⟨u1, u2, u3⟩ := hx; go_simp; try (with_reducible rfl)
        try simp only [Act.put, List.setIfInBounds_toArray, List.set_cons_zero, List.set_cons_succ, List.getElem_toArray, List.getElem_cons_zero, List.getElem_cons_succ]
        refine wpAnyZ_takeC (i := 4) (v := ?_) [5, 6, 12] rfl (by kernel_rfl) (by kernel_rfl) (by kernel_rfl) (by kernel_rfl) (by kernel_rfl) (by kernel_rfl) (fun _ _ _ h => h) (s0) (by rfl) ?_ ?_
        rotate_left
        · intro x hx; obtain ⟨u1, u2, u3⟩ := hx; go_simp; try (with_reducible rfl)
        try simp only [Act.put, List.setIfInBounds_toArray, List.set_cons_zero, List.set_cons_succ, List.getElem_toArray, List.getElem_cons_zero, List.getElem_cons_succ]
        refine wpAnyZ_step (i := 5) (by kernel_rfl) rfl (by rfl) ?_
        intro KK hKK
        go_simp
        go_at_call 22
        refine HCF.out.mono ?_
        rintro r w7 ⟨rfl, b7⟩
        have hz7 := b7.size
        have HM7 := Lib.hid (HMd.out.below b7)
        have HK7 := Lib.hid (HKd.out.trans (Kept.of_below (S := fun b => b = g) b7))
        have BG7 := Lib.hid (BGd.out.below b7)
        have s7 : w7.cell? ⟨W.heap.size, 0, none⟩ = some (.int .i64 (P : Int)) ∧ w7.cell? ⟨W.heap.size, 1, none⟩ = some (.slice a l.length gcap) ∧ w7.cell? ⟨g, i, none⟩ = some (.slice a5 r'.length q5) := ⟨BG7.out.c0, BG7.out.c1, (b7.cell (p := ⟨g, i, none⟩) zd).trans cd⟩
        have hz7' : W.heap.size + 1 ≤ w7.heap.size := by omega
        clear HCF HID HMd HKd BGd cd zd hzd s0 b7
        cases hf : forF l r'
        · have HTRY : Hid (tryS (forF l) k d e S i = none) := Lib.hid (by rw [HTR.out, hf]; rfl)
          go_wp2_with fail
          refine hKK.out _ _ (.inr s7) ?_
          clear hKK KK
          try simp only [Act.put, List.setIfInBounds_toArray, List.set_cons_zero, List.set_cons_succ, List.getElem_toArray, List.getElem_cons_zero, List.getElem_cons_succ]
          refine wpAnyZ_takeC (i := 6) (v := ?_) [12] rfl (by kernel_rfl) (by kernel_rfl) (by kernel_rfl) (by kernel_rfl) (by kernel_rfl) (by kernel_rfl) (fun _ _ _ h => h) (s7) (by rfl) ?_ ?_
          rotate_left
          · intro x hx; obtain ⟨u1, u2, u3⟩ := hx; go_simp; try (with_reducible rfl)
          try simp only [Act.put, List.setIfInBounds_toArray, List.set_cons_zero, List.set_cons_succ, List.getElem_toArray, List.getElem_cons_zero, List.getElem_cons_succ]
          refine wpAnyZ_skip (i := 7) [12] rfl (by kernel_rfl) (by kernel_rfl) (by kernel_rfl) (by kernel_rfl) (by kernel_rfl) (by kernel_rfl) (fun _ _ _ h => h) (s7) (by rfl) ?_
          try simp only [Act.put, List.setIfInBounds_toArray, List.set_cons_zero, List.set_cons_succ, List.getElem_toArray, List.getElem_cons_zero, List.getElem_cons_succ]
          refine wpAnyZ_skip (i := 8) [12] rfl (by kernel_rfl) (by kernel_rfl) (by kernel_rfl) (by kernel_rfl) (by kernel_rfl) (by kernel_rfl) (fun _ _ _ h => h) (s7) (by rfl) ?_
          try simp only [Act.put, List.setIfInBounds_toArray, List.set_cons_zero, List.set_cons_succ, List.getElem_toArray, List.getElem_cons_zero, List.getElem_cons_succ]
          refine wpAnyZ_skip (i := 9) [10, 12] rfl (by kernel_rfl) (by kernel_rfl) (by kernel_rfl) (by kernel_rfl) (by kernel_rfl) (by kernel_rfl) (fun _ _ _ h => h) (s7) (by rfl) ?_
          try simp only [Act.put, List.setIfInBounds_toArray, List.set_cons_zero, List.set_cons_succ, List.getElem_toArray, List.getElem_cons_zero, List.getElem_cons_succ]
          refine wpAnyZ_skip (i := 10) [12] rfl (by kernel_rfl) (by kernel_rfl) (by kernel_rfl) (by kernel_rfl) (by kernel_rfl) (by kernel_rfl) (fun _ _ _ h => h) (s7) (by rfl) ?_
          try simp only [Act.put, List.setIfInBounds_toArray, List.set_cons_zero, List.set_cons_succ, List.getElem_toArray, List.getElem_cons_zero, List.getElem_cons_succ]
          refine wpAnyZ_skip (i := 11) [12] rfl (by kernel_rfl) (by kernel_rfl) (by kernel_rfl) (by kernel_rfl) (by kernel_rfl) (by kernel_rfl) (fun _ _ _ h => h) (s7) (by rfl) ?_
          try simp only [Act.put, List.setIfInBounds_toArray, List.set_cons_zero, List.set_cons_succ, List.getElem_toArray, List.getElem_cons_zero, List.getElem_cons_succ]
          refine wpAnyZ_not (i := 12) (by kernel_rfl) rfl (by rfl) (.inl (by kernel_rfl)) ?_
          try simp only [Act.put, List.setIfInBounds_toArray, List.set_cons_zero, List.set_cons_succ, List.getElem_toArray, List.getElem_cons_zero, List.getElem_cons_succ]
          refine wpAnyZ_step (i := 13) (by kernel_rfl) rfl (by rfl) ?_
          intro KK hKK
          go_simp
          refine hKK.out _ _ (.inl (by kernel_rfl)) ?_
          clear hKK KK
          try simp only [Act.put, List.setIfInBounds_toArray, List.set_cons_zero, List.set_cons_succ, List.getElem_toArray, List.getElem_cons_zero, List.getElem_cons_succ]
          refine wpAnyZ_done (by kernel_rfl) ?_ _
          have HM9 := HM7
          have HK9 := HK7
          have BG9 := BG7
          clear s7 HM7 HK7 BG7
          have HB10 := Lib.hid (HM.out.back HU.out HK9.out HM9.out)
          have BG10 := Lib.hid (BG9.out.kept (keptSet (S := fun b => b = g) (b := g) (j := i) (x := .slice ab (setA S i).length cb) rfl) (by omega))
          have HK10 : Hid (Kept (fun b => b = g) W (w7.setCell ⟨g, i, none⟩ (.slice ab (setA S i).length cb))) := Lib.hid (HK9.out.trans (keptSet rfl))
          have c9 := World.ownsRow.cellAt HM9.out.out i (by have := HM9.out.len; omega)
          rw [List.getElem?_set_self HUL.out] at c9
          have f9 := HM9.out.froz i
          have z9 := HM9.out.blk.1
          have hz10 : W.heap.size + 1 ≤ (w7.setCell ⟨g, i, none⟩ (.slice ab (setA S i).length cb)).heap.size := by simp; omega
          by_cases hnil : setA S i = []
          · have HEND : Hid (R = none) := Lib.hid (by
              rw [← HFD.out.1, ← HFD.out.2]
              exact fill_stop hSl hik HN.out HTRY.out fun j h1 h2 => HLA.out i j h1 h2 hnil)
            have hl0 : (setA S i).length = 0 := by rw [hnil]; rfl
            rw [hl0] at HB10 BG10 HK10 hz10 ⊢
            go_wp2_with fail
            go_ret
            exact RetPut.no HEND.out HK10.out HB10.out
          · have HNN : Hid (∀ j, j < i + 1 → setA S j ≠ []) := Lib.hid fun j hj => by
              by_cases e1 : j = i
              · rw [e1]; exact hnil
              · exact HE.out j (by omega)
            have HTT : Hid (∀ j, j < i + 1 → tryS (forF l) k d e S j = none) := Lib.hid fun j hj => by
              by_cases e1 : j = i
              · rw [e1]; exact HTRY.out
              · exact HN.out j (by omega)
            have hlp : 0 < (setA S i).length := List.length_pos_iff.2 hnil
            obtain ⟨Z, hZ⟩ : ∃ Z, Z = (setA S i).length := ⟨_, rfl⟩
            rw [← hZ] at HB10 BG10 HK10 hz10 hlp ⊢
            clear hZ hnil
            have hze : ((Z : Int) == 0) = false := by rw [beq_eq_false_iff_ne]; omega
            go_wp2_with fail
            go_roundw
            case rel => exact ⟨i + 1, by omega, by go_num, HTT.out, HNN.out, HB10.out, HK10.out, BG10.out, hz10⟩
            case measure => simp [intOf]; omega
        · have hadd := IntWalk.i64_in ((e : Int) + 1) (by omega)
          have HC2 := Lib.hid (IH.out (S.set i r') (vs.set i (.slice a5 r'.length q5)) w7 base g cap (by have := HFD.out.2; omega) HOKA.out HLAA.out HM7.out fun w h => HB.out w (HK7.out.trans h))
          rw [hf] at HTR
          go_wp2_with fail
          refine hKK.out _ _ (.inr s7) ?_
          clear hKK KK
          try simp only [Act.put, List.setIfInBounds_toArray, List.set_cons_zero, List.set_cons_succ, List.getElem_toArray, List.getElem_cons_zero, List.getElem_cons_succ]
          refine wpAnyZ_takeC (i := 6) (v := ?_) [12] rfl (by kernel_rfl) (by kernel_rfl) (by kernel_rfl) (by kernel_rfl) (by kernel_rfl) (by kernel_rfl) (fun _ _ _ h => h) (s7) (by rfl) ?_ ?_
          rotate_left
          · intro x hx; obtain ⟨u1, u2, u3⟩ := hx; go_simp; try (with_reducible rfl)
          try simp only [Act.put, List.setIfInBounds_toArray, List.set_cons_zero, List.set_cons_succ, List.getElem_toArray, List.getElem_cons_zero, List.getElem_cons_succ]
          refine wpAnyZ_takeC (i := 7) (v := ?_) [12] rfl (by kernel_rfl) (by kernel_rfl) (by kernel_rfl) (by kernel_rfl) (by kernel_rfl) (by kernel_rfl) (fun _ _ _ h => h) (s7) (by rfl) ?_ ?_
          rotate_left
          · intro x hx; obtain ⟨u1, u2, u3⟩ := hx; go_simp; try (with_reducible rfl)
          try simp only [Act.put, List.setIfInBounds_toArray, List.set_cons_zero, List.set_cons_succ, List.getElem_toArray, List.getElem_cons_zero, List.getElem_cons_succ]
          refine wpAnyZ_takeC (i := 8) (v := ?_) [12] rfl (by kernel_rfl) (by kernel_rfl) (by kernel_rfl) (by kernel_rfl) (by kernel_rfl) (by kernel_rfl) (fun _ _ _ h => h) (s7) (by rfl) ?_ ?_
          rotate_left
          · intro x hx; obtain ⟨u1, u2, u3⟩ := hx; go_simp; try (with_reducible rfl)
          try simp only [Act.put, List.setIfInBounds_toArray, List.set_cons_zero, List.set_cons_succ, List.getElem_toArray, List.getElem_cons_zero, List.getElem_cons_succ]
          refine wpAnyZ_takeC (i := 9) (v := ?_) [10, 12] rfl (by kernel_rfl) (by kernel_rfl) (by kernel_rfl) (by kernel_rfl) (by kernel_rfl) (by kernel_rfl) (fun _ _ _ h => h) (s7) (by rfl) ?_ ?_
          rotate_left
          · intro x hx; obtain ⟨u1, u2, u3⟩ := hx; go_simp; try (with_reducible rfl)
          try simp only [Act.put, List.setIfInBounds_toArray, List.set_cons_zero, List.set_cons_succ, List.getElem_toArray, List.getElem_cons_zero, List.getElem_cons_succ]
          refine wpAnyZ_takeC (i := 10) (v := ?_) [12] rfl (by kernel_rfl) (by kernel_rfl) (by kernel_rfl) (by kernel_rfl) (by kernel_rfl) (by kernel_rfl) (fun _ _ _ h => h) (s7) (by rfl) ?_ ?_
          rotate_left
          · intro x hx; obtain ⟨u1, u2, u3⟩ := hx; go_simp; try (with_reducible rfl)
          try simp only [Act.put, List.setIfInBounds_toArray, List.set_cons_zero, List.set_cons_succ, List.getElem_toArray, List.getElem_cons_zero, List.getElem_cons_succ]
          refine wpAnyZ_takeC (i := 11) (v := ?_) [12] rfl (by kernel_rfl) (by kernel_rfl) (by kernel_rfl) (by kernel_rfl) (by kernel_rfl) (by kernel_rfl) (fun _ _ _ h => h) (s7) (by rfl) ?_ ?_
          rotate_left
          · intro x hx; obtain ⟨u1, u2, u3⟩ := hx; go_simp; try (with_reducible rfl)
          try simp only [Act.put, List.setIfInBounds_toArray, List.set_cons_zero, List.set_cons_succ, List.getElem_toArray, List.getElem_cons_zero, List.getElem_cons_succ]
          refine wpAnyZ_step (i := 12) (by kernel_rfl) rfl (by rfl) ?_
          intro KK hKK
          go_simp
          rw [show ((e + 1 : Nat) : Int) = (e : Int) + 1 by omega] at HC2
          clear hadd s7
          cases hres : fillS (forF l) k d (e + 1) (S.set i r')
          · rw [hres] at HC2 HTR
            have HTRY : Hid (tryS (forF l) k d e S i = none) := Lib.hid (by rw [HTR.out]; rfl)
            clear hres
            refine HC2.out.mono ?_
            rintro r w8 ⟨k8, rfl, m8⟩
            have HM9 := Lib.hid m8
            have HK9 := Lib.hid (HK7.out.trans k8)
            have BG9 := Lib.hid (BG7.out.kept k8 (by omega))
            have hz8 := k8.size
            have hz7' : W.heap.size + 1 ≤ w8.heap.size := by omega
            clear m8 k8 HM7 HK7 BG7 HC2
            go_wp2_with fail
            refine hKK.out _ _ (.inl (by kernel_rfl)) ?_
            clear hKK KK
            try simp only [Act.put, List.setIfInBounds_toArray, List.set_cons_zero, List.set_cons_succ, List.getElem_toArray, List.getElem_cons_zero, List.getElem_cons_succ]
            refine wpAnyZ_step (i := 13) (by kernel_rfl) rfl (by rfl) ?_
            intro KK hKK
            go_simp
            refine hKK.out _ _ (.inl (by kernel_rfl)) ?_
            clear hKK KK
            try simp only [Act.put, List.setIfInBounds_toArray, List.set_cons_zero, List.set_cons_succ, List.getElem_toArray, List.getElem_cons_zero, List.getElem_cons_succ]
            refine wpAnyZ_done (by kernel_rfl) ?_ _
            have HB10 := Lib.hid (HM.out.back HU.out HK9.out HM9.out)
            have BG10 := Lib.hid (BG9.out.kept (keptSet (S := fun b => b = g) (b := g) (j := i) (x := .slice ab (setA S i).length cb) rfl) (by omega))
            have HK10 : Hid (Kept (fun b => b = g) W (w8.setCell ⟨g, i, none⟩ (.slice ab (setA S i).length cb))) := Lib.hid (HK9.out.trans (keptSet rfl))
            have c9 := World.ownsRow.cellAt HM9.out.out i (by have := HM9.out.len; omega)
            rw [List.getElem?_set_self HUL.out] at c9
            have f9 := HM9.out.froz i
            have z9 := HM9.out.blk.1
            have hz10 : W.heap.size + 1 ≤ (w8.setCell ⟨g, i, none⟩ (.slice ab (setA S i).length cb)).heap.size := by simp; omega
            by_cases hnil : setA S i = []
            · have HEND : Hid (R = none) := Lib.hid (by
                rw [← HFD.out.1, ← HFD.out.2]
                exact fill_stop hSl hik HN.out HTRY.out fun j h1 h2 => HLA.out i j h1 h2 hnil)
              have hl0 : (setA S i).length = 0 := by rw [hnil]; rfl
              rw [hl0] at HB10 BG10 HK10 hz10 ⊢
              go_wp2_with fail
              go_ret
              exact RetPut.no HEND.out HK10.out HB10.out
            · have HNN : Hid (∀ j, j < i + 1 → setA S j ≠ []) := Lib.hid fun j hj => by
                by_cases e1 : j = i
                · rw [e1]; exact hnil
                · exact HE.out j (by omega)
              have HTT : Hid (∀ j, j < i + 1 → tryS (forF l) k d e S j = none) := Lib.hid fun j hj => by
                by_cases e1 : j = i
                · rw [e1]; exact HTRY.out
                · exact HN.out j (by omega)
              have hlp : 0 < (setA S i).length := List.length_pos_iff.2 hnil
              obtain ⟨Z, hZ⟩ : ∃ Z, Z = (setA S i).length := ⟨_, rfl⟩
              rw [← hZ] at HB10 BG10 HK10 hz10 hlp ⊢
              clear hZ hnil
              have hze : ((Z : Int) == 0) = false := by rw [beq_eq_false_iff_ne]; omega
              go_wp2_with fail
              go_roundw
              case rel => exact ⟨i + 1, by omega, by go_num, HTT.out, HNN.out, HB10.out, HK10.out, BG10.out, hz10⟩
              case measure => simp [intOf]; omega
          · rename_i S2
            rw [hres] at HC2 HTR
            have HEND : Hid (R = some S2) := Lib.hid (by
              rw [hFS.out]
              exact firstS_hit HN.out (by rw [HTR.out]; rfl) k hik)
            clear hres
            refine HC2.out.mono ?_
            rintro r w8 ⟨k8, rfl, vs8, m8⟩
            have HM8 := Lib.hid m8
            have HK8 := Lib.hid (HK7.out.trans k8)
            clear m8 k8 HM7 HK7 BG7 HC2
            go_wp2_with fail
            refine hKK.out _ _ (.inl (by kernel_rfl)) ?_
            clear hKK KK
            try simp only [Act.put, List.setIfInBounds_toArray, List.set_cons_zero, List.set_cons_succ, List.getElem_toArray, List.getElem_cons_zero, List.getElem_cons_succ]
            refine wpAnyZ_step (i := 13) (by kernel_rfl) rfl (by rfl) ?_
            intro KK hKK
            go_simp
            refine hKK.out _ _ (.inl (by kernel_rfl)) ?_
            clear hKK KK
            try simp only [Act.put, List.setIfInBounds_toArray, List.set_cons_zero, List.set_cons_succ, List.getElem_toArray, List.getElem_cons_zero, List.getElem_cons_succ]
            refine wpAnyZ_done (by kernel_rfl) ?_ _
            go_wp2_with fail
            go_ret
            exact RetPut.yes HEND.out HK8.out HM8.out
      · obtain rfl : i = k := by omega
        have HEND : Hid (R = none) := Lib.hid (by rw [hFS.out]; exact firstS_none i HN.out)
        clear hik hi
        have hnl : decide ((i : Int) < (i : Int)) = false := by simp
        go_wp2_with fail
        go_ret
        exact RetPut.no HEND.out HK.out HM2.out
end Go.Proofs.YtfbmpkdjhhcnpaaGreat

namespace Go.Proofs.YtfbmpkdjhhcnpaaGreat
open Go.RowKit
set_option maxRecDepth 100000
set_option linter.unusedVariables false
set_option linter.unusedSimpArgs false
def RetPk (W : World) (S : SetsT) (ok : Bool) (e : Ending) (w' : World) : Prop := ∃ v, e = .returned (.tuple #[v, .bool ok]) ∧ OwnIntss w' W.heap.size v S ∧ Below W.heap.size W w'
theorem RetPk.no {W w' : World} {g : GraphT} {k : Int} {v : Value} (h : packO g k = none) (ho : OwnIntss w' W.heap.size v []) (hb : Below W.heap.size W w') : RetPk W (packL g k) (packOk g k) (.returned (.tuple #[v, .bool false])) w' := by
  unfold packL packOk; rw [h]; exact ⟨v, rfl, ho, hb⟩
theorem RetPk.yes {W w' : World} {g : GraphT} {k : Int} {v : Value} {S : SetsT} (h : packO g k = some S) (ho : OwnIntss w' W.heap.size v S) (hb : Below W.heap.size W w') : RetPk W (packL g k) (packOk g k) (.returned (.tuple #[v, .bool true])) w' := by
  unfold packL packOk; rw [h]; exact ⟨v, rfl, ho, hb⟩
theorem packO_no {g : GraphT} {k : Int} (h : (inB k 1 3 && (tightB g k k && decide (g.1 ≤ 5))) = false) : packO g k = none := by unfold packO; rw [h]; rfl
theorem tight_graph {g : GraphT} {k r : Int} (h : tightB g k r = true) : isGraphB g = true := by
  unfold tightB sparseB at h
  simp only [Bool.and_eq_true] at h
  exact h.1.1.1
theorem tight_len {P : Nat} {l : List BarT} {k : Int} (h : tightB ((P : Int), l) k k = true) (hk : 1 ≤ k) : (l.length : Int) = k * ((P : Int) - 1) := by
  have hg := tight_graph h
  obtain ⟨⟨h1, h2⟩, _⟩ := isGraphB_bd hg
  unfold tightB at h
  simp only [Bool.and_eq_true, beq_iff_eq] at h
  have h3 := h.2
  have h4 : k * (P : Int) - k = k * ((P : Int) - 1) := by rw [Int.mul_sub, Int.mul_one]
  have h5 : 0 ≤ k * ((P : Int) - 1) := Int.mul_nonneg (by omega) (by omega)
  rw [h4] at h3
  omega
theorem made_intssP (W : World) : OwnIntss (W.alloc (.cells #[] 35)) W.heap.size (.slice (some ⟨W.heap.size, 0, none⟩) 0 0) [] := ⟨[], World.ownsRow_made W #[] 0 (Nat.le_refl _) (Nat.zero_le _) rfl, IRows.nil _ _⟩
set_option maxHeartbeats 8000000 in
theorem specPack_at (W : World) (p : Int) (a : Option Addr) (cap : Nat) (l : List BarT) (h : BarsAt W a l.length l) (hs : l.length ≤ 1048576) (k : Int) : Calls Tryz.prog 8 #[.agg #[.int .i64 p, .slice a l.length cap], .int .i64 k] W (RetPk W (packL (p, l) k) (packOk (p, l) k)) := by
  have hwd := @Wd.cells
  have HGr : Hid (IsGraph W (.agg #[.int .i64 p, .slice a l.length cap]) (p, l)) := Lib.hid ⟨a, cap, rfl, h⟩
  have H1 := Lib.hid h
  clear h
  have hsz : szGraph (p, l) ≤ 1048576 := hs
  have hsz2 : szGraph (p, l) ≤ 1099511627776 := Nat.le_trans hsz (by decide)
  have B : Below W.heap.size W (W.alloc (.cells #[.int .i64 p, .slice a l.length cap] 26)) := (Below.refl _ _).alloc (Nat.le_refl _) _
  have BG : Hid (BoxGr (W.alloc (.cells #[.int .i64 p, .slice a l.length cap] 26)) W.heap.size p a l.length cap) := Lib.hid (BoxGr.at rfl)
  have HCG : Hid (∀ w1 : World, Below W.heap.size W w1 → Calls Tryz.prog 51 #[.agg #[.int .i64 p, .slice a l.length cap]] w1 fun e w' => e = .returned (.bool (isGraphB (p, l))) ∧ Below w1.heap.size w1 w') := Lib.hid fun w1 b => spec_IsGraph_is w1 _ (p, l) (HGr.out.below b) hsz2
  have HCT : Hid (∀ w1 : World, Below W.heap.size W w1 → Calls Tryz.prog 11 #[.agg #[.int .i64 p, .slice a l.length cap], .int .i64 k, .int .i64 k] w1 fun e w' => e = .returned (.bool (tightB (p, l) k k)) ∧ Below w1.heap.size w1 w') := Lib.hid fun w1 b => specTight_at w1 p a cap l (H1.out.below b) hs k k
  have HCI : Hid (∀ w1 : World, Calls Tryz.prog 52 #[.int .i64 k, .int .i64 1, .int .i64 3] w1 fun e w' => e = .returned (.bool (inB k 1 3)) ∧ w1 = w') := Lib.hid fun w1 => l1In_any k 1 3 w1
  go_enter Tryz.func8, Tryz.ntmps8
  go_wp2_with fail
  generalize (W.alloc (.cells #[.int .i64 p, .slice a l.length cap] 26)) = u at *
  refine (HCG.out _ B).mono ?_
  rintro e w1 ⟨rfl, b⟩
  have hz1 := b.size
  replace B := B.step b
  replace BG := Lib.hid (BG.out.below b)
  clear b
  cases hg : isGraphB (p, l)
  · have HE : Hid (packO (p, l) k = none) := Lib.hid (packO_no (by
      cases ht : tightB (p, l) k k
      · simp
      · rw [tight_graph ht] at hg; simp at hg))
    go_wp2_with fail
    go_ret2
    exact RetPk.no HE.out (ownsRow_base' (made_intssP _) (by have := B.size; omega)) (B.step (belAl _ _))
  cases hi : inB k 1 3
  · rw [hi] at HCI
    have HE : Hid (packO (p, l) k = none) := Lib.hid (packO_no (by rw [hi]; rfl))
    go_wp2_with (go_at_call 52; refine (HCI.out _).mono ?_; rintro e w2 ⟨rfl, rfl⟩)
    go_ret2
    exact RetPk.no HE.out (ownsRow_base' (made_intssP _) (by have := B.size; omega)) (B.step (belAl _ _))
  rw [hi] at HCI
  have HI := Lib.hid hi
  have hk13 : 1 ≤ k ∧ k ≤ 3 := by simpa [inB] using hi
  obtain ⟨K, rfl⟩ := Int.eq_ofNat_of_zero_le (show 0 ≤ k by omega)
  obtain ⟨⟨hg1, hg2⟩, hll⟩ := isGraphB_bd hg
  obtain ⟨P, rfl⟩ := Int.eq_ofNat_of_zero_le (show 0 ≤ p by omega)
  have hb1 : 0 ≤ (K : Int) * ((P : Int) - 1) := Int.mul_nonneg (by omega) (by omega)
  have hb2 : (K : Int) * ((P : Int) - 1) ≤ 3 * 8 := Int.mul_le_mul (by omega) (by omega) (by omega) (by omega)
  have hsub := IntWalk.i64_in ((P : Int) - 1) (by omega)
  have hmul := IntWalk.i64_in ((K : Int) * ((P : Int) - 1)) (by omega)
  have HG := Lib.hid hg
  clear hi hg
  by_cases hlen : ¬ (l.length : Int) = (K : Int) * ((P : Int) - 1)
  · have HE : Hid (packO ((P : Int), l) (K : Int) = none) := Lib.hid (packO_no (by
      cases ht : tightB ((P : Int), l) (K : Int) (K : Int)
      · simp
      · exact absurd (tight_len ht hk13.1) hlen))
    have hne : ((l.length : Int) != (K : Int) * ((P : Int) - 1)) = true := by simpa using hlen
    obtain ⟨zBG, fBG0, fBG1⟩ := BG.out
    go_wp2_with (go_at_call 52; refine (HCI.out _).mono ?_; rintro e w2 ⟨rfl, rfl⟩)
    go_ret2
    exact RetPk.no HE.out (ownsRow_base' (made_intssP _) (by have := B.size; omega)) (B.step (belAl _ _))
  have hne : ((l.length : Int) != (K : Int) * ((P : Int) - 1)) = false := by simpa using Classical.not_not.1 hlen
  clear hlen
  by_cases hp5 : ¬ (P : Int) ≤ 5
  · have HE : Hid (packO ((P : Int), l) (K : Int) = none) := Lib.hid (packO_no (by rw [decide_eq_false hp5]; simp))
    have hp6 : (5 : Int) < (P : Int) := by omega
    obtain ⟨zBG, fBG0, fBG1⟩ := BG.out
    go_wp2_with (go_at_call 52; refine (HCI.out _).mono ?_; rintro e w2 ⟨rfl, rfl⟩)
    go_ret2
    exact RetPk.no HE.out (ownsRow_base' (made_intssP _) (by have := B.size; omega)) (B.step (belAl _ _))
  have hp6 : ¬ (5 : Int) < (P : Int) := by omega
  have HP5 := Lib.hid (Classical.not_not.1 hp5)
  clear hp5
  cases ht : tightB ((P : Int), l) (K : Int) (K : Int)
  · rw [ht] at HCT
    have HE : Hid (packO ((P : Int), l) (K : Int) = none) := Lib.hid (packO_no (by rw [ht]; simp))
    obtain ⟨zBG, fBG0, fBG1⟩ := BG.out
    go_wp2_with (first | (go_at_call 52; refine (HCI.out _).mono ?_; rintro e w2 ⟨rfl, rfl⟩) | (go_at_call 11; refine (HCT.out _ B).mono ?_; rintro e w2 ⟨rfl, b⟩; replace B := B.step b))
    go_ret2
    exact RetPk.no HE.out (ownsRow_base' (made_intssP _) (by have := B.size; omega)) (B.step (belAl _ _))
  rw [ht] at HCT
  have HPO : Hid (packO ((P : Int), l) (K : Int) = fillS (forF l) K l.length 0 (List.replicate K [])) := Lib.hid (by
    unfold packO
    rw [HI.out, ht, decide_eq_true HP5.out]
    rfl)
  clear ht
  obtain ⟨zBG, fBG0, fBG1⟩ := BG.out
  have zBG' := zBG
  go_wp2_with (first | (go_at_call 52; refine (HCI.out _).mono ?_; rintro e w2 ⟨rfl, rfl⟩) | (go_at_call 11; refine (HCT.out _ B).mono ?_; rintro e w2 ⟨rfl, b⟩; have hz2 := b.size; replace B := B.step b; replace BG := Lib.hid (BG.out.below b)))
  clear zBG fBG0 fBG1 b
  have HO0 := Lib.hid (made_intssP w2)
  have hb0 := belAl w2 (.cells #[] 35)
  replace B := B.step hb0
  replace BG := Lib.hid (BG.out.below hb0)
  have hz3 : W.heap.size + 1 ≤ w2.heap.size := by have := BG.out.1; have h9 := hz1; have h8 := zBG'; omega
  clear hb0
  generalize w2.alloc (.cells #[] 35) = w3 at *
  go_loopw [6, 7] (fun o s w9 => ∃ i : Nat, i ≤ K ∧ s = .int .i64 i ∧ OwnIntss w9 (W.heap.size + 1) o (List.replicate i []) ∧ Below W.heap.size W w9 ∧ BoxGr w9 W.heap.size P a l.length cap ∧ W.heap.size + 1 ≤ w9.heap.size) (fun _ s _ => K - (intOf s).toNat)
  case atStart => exact ⟨0, Nat.zero_le _, rfl, ownsRow_base' HO0.out (by omega), B, BG.out, by have := B.size; have := BG.out.1; omega⟩
  case round =>
    clear B BG HO0
    obtain ⟨i, hi, rfl, ho, B, bg, hz⟩ := hrel
    have BG := Lib.hid bg
    clear bg
    by_cases hik : i < K
    · have hii : (i : Int) < (K : Int) := by omega
      obtain ⟨vs, hvs, hrs⟩ := ho
      have HV := Lib.hid hvs
      have HVR := Lib.hid hrs
      clear hvs hrs
      have HLK : Hid ((List.replicate i ([] : List Int)).length < 1099511627776) := Lib.hid (by simp; omega)
      have bk := belAl wr (.cells #[] 3)
      go_wp2_with (at_builtin; refine appRow (by rfl) (.tmp 46) (.tmp 48) (by rfl) (by rfl) (ownsRow_base (made_intsS wr) hz) bk HV.out HVR.out (fun q hq => by simp [Value.ownBlock] at hq; omega) (by rw [World.size_alloc]; rfl) HLK.out (by simp; omega) ?_; intro v' w8 h8 k8)
      have hrep : List.replicate i ([] : List Int) ++ [[]] = List.replicate (i + 1) [] := (List.replicate_succ' ..).symm
      rw [hrep] at h8
      have hb8 : Below W.heap.size W w8 := B.trans ((bk.mono (by omega)).trans (k8.below (by simp; omega) fun j h1 h2 => by
        have := (World.ownsRow.lt HV.out j h2.symm).1
        omega))
      have BG8 := BG.out.kept (Kept.of_below (S := fun b => W.heap.size + 1 ≤ b) bk) (by omega)
      have BG9 := BG8.kept k8 (fun h2 => by
        have := (World.ownsRow.lt HV.out _ h2.symm).1
        omega)
      have hz8 := k8.size
      go_roundw
      case rel => exact ⟨i + 1, by omega, by go_num, h8, hb8, BG9, by simp at hz8; omega⟩
      case measure => simp [intOf]; omega
    · obtain rfl : i = K := by omega
      clear hik hi
      obtain ⟨g, c, vs, rfl, hm⟩ := ho.mat (by simp; omega)
      rw [List.length_replicate] at hm ⊢
      have hgb := hm.blk
      have HC := Lib.hid (specPut_at P a cap l HG.out i (by omega) l.length 0 (List.replicate i []) vs wr (W.heap.size + 1) g c (by omega) (SetsOk.none i) (fun x y h1 h2 h3 => by
        unfold setA; rw [List.getElem?_replicate]; split <;> rfl) hm fun w h => H1.out.below (B.trans (h.below (by omega) fun j h1 h2 => by omega)))
      have hnl : decide ((i : Int) < (i : Int)) = false := by simp
      clear hm ho
      obtain ⟨zBG, fBG0, fBG1⟩ := BG.out
      go_wp2_with fail
      clear zBG fBG0 fBG1
      cases hres : fillS (forF l) i l.length 0 (List.replicate i [])
      · rw [hres] at HC HPO
        refine HC.out.mono ?_
        rintro e w5 ⟨k5, rfl, m5⟩
        have B5 := B.trans (k5.below (B := W.heap.size) (by omega) fun j h1 h2 => by omega)
        clear HC m5
        go_wp2_with fail
        go_ret2
        exact RetPk.no HPO.out (ownsRow_base' (made_intssP _) (by have := B5.size; omega)) (B5.step (belAl _ _))
      · rename_i S2
        rw [hres] at HC HPO
        refine HC.out.mono ?_
        rintro e w5 ⟨k5, rfl, vs5, m5⟩
        have B5 := B.trans (k5.below (B := W.heap.size) (by omega) fun j h1 h2 => by omega)
        have HM5 := Lib.hid m5
        clear HC m5
        go_wp2_with fail
        go_ret2
        exact RetPk.yes HPO.out (ownsRow_base' HM5.out.own (by omega)) B5
end Go.Proofs.YtfbmpkdjhhcnpaaGreat

namespace Go.Proofs.YtfbmpkdjhhcnpaaGreat
open Go.RowKit
set_option maxRecDepth 100000
set_option linter.unusedVariables false
set_option linter.unusedSimpArgs false
set_option maxHeartbeats 2000000 in
theorem setOf_at (W : World) (p m : Nat) (hp : p ≤ 8) (hm : m < 256) :
    Calls Tryz.prog 122 #[.int .i64 (m : Int), .int .i64 (p : Int)] W (RetInts W (maskL m p)) := by
  go_enter Tryz.func122, Tryz.ntmps122
  go_wp2_with fail
  go_loopw [5, 9] (fun o i w9 => ∃ k : Nat, k ≤ p ∧ i = .int .i64 k ∧ OwnInts w9 W.heap.size o (maskL m k) ∧ Below W.heap.size W w9) (fun _ i _ => p - (intOf i).toNat)
  case atStart => exact ⟨0, Nat.zero_le _, rfl, made_intsS W, belAl W _⟩
  case round =>
    obtain ⟨k, hk, rfl, ho, hb⟩ := hrel
    by_cases hlt : k < p
    · have hki : (k : Int) < (p : Int) := by omega
      have HB := bit_and m k
      have hlk := maskL_len m k
      have HO := Lib.hid ho
      clear ho
      cases hd : bitB m k
      · have HS := Lib.hid (show maskL m (k + 1) = maskL m k by conv => lhs; unfold maskL; rw [hd]; simp)
        rw [hd] at HB
        clear hd
        go_wp2_with fail
        go_roundw
        case rel => exact ⟨k + 1, by omega, by go_num, by rw [HS.out]; exact HO.out, hb⟩
        case measure => simp [intOf]; omega
      · have HS := Lib.hid (show maskL m (k + 1) = maskL m k ++ [(k : Int)] by conv => lhs; unfold maskL; rw [hd]; simp)
        rw [hd] at HB
        clear hd
        have hbz := hb.size
        go_wp2_with (at_builtin; refine app1At rfl (.tmp 17) (.tmp 19) rfl rfl HO.out (k : Int) rfl (by omega) (by omega) ?_; intro v5 w5 h5 k5 a5)
        go_roundw
        case rel => exact ⟨k + 1, by omega, by go_num, by rw [HS.out]; exact h5, hb.trans (k5.below (by omega) fun j h1 h2 => by have := (HO.out.lt j h2.symm).1; omega)⟩
        case measure => simp [intOf]; omega
    · obtain rfl : k = p := by omega
      go_wp2_with fail
      go_ret
      exact ⟨_, rfl, ho, hb⟩
set_option maxHeartbeats 4000000 in
theorem implOvc_at (W : World) (p : Int) (a : Option Addr) (cap : Nat) (l : List BarT) (h : BarsAt W a l.length l) (hs : l.length ≤ 1048576) (k r : Int) :
    Calls Tryz.prog 86 #[.agg #[.int .i64 p, .slice a l.length cap], .int .i64 k, .int .i64 r] W (RetOv W (ovcB (p, l) k r)) := by
  have hwd := @Wd.cells
  have HGr : Hid (IsGraph W (.agg #[.int .i64 p, .slice a l.length cap]) (p, l)) := Lib.hid ⟨a, cap, rfl, h⟩
  have H1 := Lib.hid h
  clear h
  have hsz : szGraph (p, l) ≤ 1048576 := hs
  have hsz2 : szGraph (p, l) ≤ 1099511627776 := Nat.le_trans hsz (by decide)
  have B : Below W.heap.size W (W.alloc (.cells #[.int .i64 p, .slice a l.length cap] 26)) := (Below.refl _ _).alloc (Nat.le_refl _) _
  have BG : Hid (BoxGr (W.alloc (.cells #[.int .i64 p, .slice a l.length cap] 26)) W.heap.size p a l.length cap) := Lib.hid (BoxGr.at rfl)
  have HCG : Hid (∀ w1 : World, Below W.heap.size W w1 → Calls Tryz.prog 61 #[.agg #[.int .i64 p, .slice a l.length cap]] w1 fun e w' => e = .returned (.bool (isGraphB (p, l))) ∧ Below w1.heap.size w1 w') := Lib.hid fun w1 b => impl_IsGraph_is w1 _ (p, l) (HGr.out.below b) hsz2
  go_enter Tryz.func86, Tryz.ntmps86
  go_wp2_with fail
  generalize (W.alloc (.cells #[.int .i64 p, .slice a l.length cap] 26)) = u at *
  refine (HCG.out _ B).mono ?_
  rintro e w1 ⟨rfl, b⟩
  have hz1 := b.size
  replace B := B.step b
  replace BG := Lib.hid (BG.out.below b)
  clear b
  cases hg : isGraphB (p, l)
  · have HE := Lib.hid (show ovcB (p, l) k r = false by unfold ovcB; rw [hg]; rfl)
    go_wp2_with fail
    go_ret2
    rw [HE.out]
    exact ⟨⟨_, rfl⟩, B.step (belAl _ _)⟩
  have HCR := Lib.hid (implRange_any k r w1)
  cases hr : rangeB k r
  · have HE := Lib.hid (show ovcB (p, l) k r = false by unfold ovcB; rw [hr, Bool.and_false]; rfl)
    go_wp2_with (go_at_call 87; refine HCR.out.mono ?_; rintro e w2 ⟨rfl, b⟩; rw [hr]; have hz2 := b.size; replace B := B.step b; replace BG := Lib.hid (BG.out.below b); clear b)
    go_ret2
    rw [HE.out]
    exact ⟨⟨_, rfl⟩, B.step (belAl _ _)⟩
  obtain ⟨⟨hg1, hg2⟩, hll⟩ := isGraphB_bd hg
  obtain ⟨P, rfl⟩ := Int.eq_ofNat_of_zero_le (show 0 ≤ p by omega)
  have hP : P ≤ 8 := by omega
  have HR := Lib.hid (isGraphB_ends hg)
  have HO : Hid (ovcB ((P : Int), l) k r = overB P l k r) := Lib.hid (by unfold ovcB; rw [hg, hr]; rfl)
  obtain ⟨hQ1, hQ2⟩ := pow8 hP
  have hkr : (1 ≤ k ∧ k ≤ 3) ∧ 0 ≤ r ∧ r ≤ 5 := by
    unfold rangeB inB at hr
    simp only [Bool.and_eq_true, decide_eq_true_eq] at hr
    omega
  obtain ⟨Q, hQ⟩ : ∃ Q, Q = 2 ^ P := ⟨_, rfl⟩
  have hsh : wrap64 ((2 : Int) ^ P) = (Q : Int) := by
    have e : ((2 : Int) ^ P) = ((2 ^ P : Nat) : Int) := by rw [Int.natCast_pow]; rfl
    rw [e, ← hQ]
    exact IntWalk.wrap64_in _ (by omega)
  have HNO : Hid (∀ m, m < Q → overAt P l k r m = true → overB P l k r = true) := Lib.hid fun m hm h => overB_yes (by omega) h
  have HNA : Hid ((∀ m, m < Q → overAt P l k r m = false) → overB P l k r = false) := Lib.hid fun h => overB_no fun m hm => h m (by omega)
  rw [← hQ] at hQ1 hQ2
  clear hQ
  go_wp2_with (go_at_call 87; refine HCR.out.mono ?_; rintro e w2 ⟨rfl, b⟩; rw [hr]; have hz2 := b.size; replace B := B.step b; replace BG := Lib.hid (BG.out.below b); clear b)
  have HN0 : Hid (∀ q, q < 1 → overAt P l k r q = false) := Lib.hid fun q hq => by
    rw [show q = 0 by omega]
    exact overAt_zero P l k r
  clear hg hr HCR
  go_loopw [8] (fun i w9 => ∃ m : Nat, 1 ≤ m ∧ m ≤ Q ∧ i = .int .i64 m ∧ (∀ q, q < m → overAt P l k r q = false) ∧ Below W.heap.size W w9 ∧ BoxGr w9 W.heap.size P a l.length cap) (fun i _ => Q - (intOf i).toNat)
  case atStart => exact ⟨1, Nat.le_refl _, hQ1, rfl, HN0.out, B, BG.out⟩
  case round =>
    clear B BG
    obtain ⟨m, hm1, hm, rfl, hno, B, bg⟩ := hrel
    have HN := Lib.hid hno
    have BG := Lib.hid bg
    clear hno bg
    by_cases hlt : m < Q
    · have hlti : (m : Int) < (Q : Int) := by omega
      have HOV : Hid (overAt P l k r m = (decide (0 < spanM l m l.length) && decide (k * (sizeM m P : Int) - r < (spanM l m l.length : Int)))) := Lib.hid rfl
      obtain ⟨zBG, fBG0, fBG1⟩ := BG.out
      go_wp2_with fail
      go_loop [9, 33] (fun z i => ∃ v : Nat, v ≤ P ∧ i = .int .i64 v ∧ z = .int .i64 (sizeM m v)) (fun _ i => P - (intOf i).toNat)
      case atStart => exact ⟨0, Nat.zero_le _, rfl, rfl⟩
      case round =>
        obtain ⟨v, hv, rfl, rfl⟩ := hrel
        have hle := sizeM_le m v
        by_cases hvP : v < P
        · have hvi : (v : Int) < (P : Int) := by omega
          have HA := and_bit m v
          have HS := Lib.hid (sizeM_succ m v)
          generalize sizeM m v = Z at *
          cases hd : bitB m v
          · rw [hd] at HA HS
            simp only [Bool.false_eq_true, if_false] at HA
            go_wp2_with fail
            go_round
            case rel => exact ⟨v + 1, by omega, by go_num, by rw [HS.out]; go_num⟩
            case measure => simp [intOf]; omega
          · rw [hd] at HA HS
            simp only [if_true] at HA
            go_wp2_with fail
            go_round
            case rel => exact ⟨v + 1, by omega, by go_num, by rw [HS.out]; go_num⟩
            case measure => simp [intOf]; omega
        · obtain rfl : v = P := by omega
          have hmm := HOV.out
          have hs1 := sizeM_le m v
          generalize hS : sizeM m v = S at *
          have hb1 : 0 ≤ k * (S : Int) := Int.mul_nonneg (by omega) (by omega)
          have hb2 : k * (S : Int) ≤ 3 * 8 := Int.mul_le_mul (by omega) (by omega) (by omega) (by omega)
          have hmul := IntWalk.i64_in (k * (S : Int)) (by omega)
          have hsub := IntWalk.i64_in (k * (S : Int) - r) (by omega)
          clear hS hmm
          obtain ⟨P, hP9⟩ : ∃ P, P = v := ⟨_, rfl⟩
          subst hP9
          go_wp2_with fail
          clear fBG0 fBG1 zBG hv hvP hle
          go_loopw [10, 46] (fun z i w9 => ∃ j : Nat, j ≤ l.length ∧ i = .int .i64 j ∧ z = .int .i64 (spanM l m j) ∧ Below W.heap.size W w9 ∧ BoxGr w9 W.heap.size P a l.length cap) (fun _ i _ => l.length - (intOf i).toNat)
          case atStart => exact ⟨0, Nat.zero_le _, rfl, rfl, B, BG.out⟩
          case round =>
            clear B BG
            obtain ⟨j, hj, rfl, rfl, B, bg⟩ := hrel
            have BG := Lib.hid bg
            clear bg
            have hle := spanM_le l m j
            by_cases hjl : j < l.length
            · obtain ⟨bb, off, ⟨x1, x2⟩, rfl, hbl, hx, hc0, hc1⟩ := (H1.out.below B).2 j hjl
              dsimp only at hc0 hc1
              obtain ⟨⟨m1, m2⟩, m3, m4⟩ := HR.out _ (List.mem_of_getElem? hx)
              dsimp only at m1 m2 m3 m4
              obtain ⟨i1, rfl⟩ := Int.eq_ofNat_of_zero_le m1
              obtain ⟨i2, rfl⟩ := Int.eq_ofNat_of_zero_le m3
              have HS : Hid (spanM l m (j + 1) = spanM l m j + (if (bitB m i1 && bitB m i2) = true then 1 else 0)) := Lib.hid (spanM_succ hx)
              clear hx
              have hji : (j : Int) < (l.length : Int) := by omega
              have HA := and_bits m i1 i2
              generalize hZ : spanM l m j = Z at *
              clear hZ
              have bpl : Below wr.heap.size wr (wr.alloc (.cells #[.int .i64 i1, .int .i64 i2] 70)) := belAl _ _
              have p0 : (wr.alloc (.cells #[.int .i64 i1, .int .i64 i2] 70)).cell? ⟨wr.heap.size, 0, none⟩ = some (.int .i64 i1) := by simp [World.cell?_alloc_new]
              have p1 : (wr.alloc (.cells #[.int .i64 i1, .int .i64 i2] 70)).cell? ⟨wr.heap.size, 1, none⟩ = some (.int .i64 i2) := by simp [World.cell?_alloc_new]
              have pz : wr.heap.size < (wr.alloc (.cells #[.int .i64 i1, .int .i64 i2] 70)).heap.size := by simp
              go_wp2_with fail
              clear hc0 hc1
              replace B := B.step bpl
              replace BG := Lib.hid (BG.out.below bpl)
              generalize (wr.alloc (.cells #[.int .i64 i1, .int .i64 i2] 70)) = w5 at *
              clear bpl
              cases hd : (bitB m i1 && bitB m i2)
              · rw [hd] at HA HS
                simp only [Bool.false_eq_true, if_false] at HA
                refine wp_region_wd (by kernel_rfl) (by kernel_rfl) ?_
                repeat (go_big_quiet_step (fail))
                refine wpQuiet_nil ?_
                intro n1
                have hn1 := n1.h
                replace B := B.step hn1
                replace BG := Lib.hid (BG.out.below hn1)
                generalize n1.w = w6 at *
                clear p0 p1 pz hn1
                go_wp2_with fail
                go_roundw
                case rel => exact ⟨j + 1, by omega, by go_num, by rw [HS.out]; go_num, B, BG.out⟩
                case measure => simp [intOf]; omega
              · rw [hd] at HA HS
                simp only [if_true] at HA
                refine wp_region_wd (by kernel_rfl) (by kernel_rfl) ?_
                repeat (go_big_quiet_step (fail))
                refine wpQuiet_nil ?_
                intro n1
                have hn1 := n1.h
                replace B := B.step hn1
                replace BG := Lib.hid (BG.out.below hn1)
                generalize n1.w = w6 at *
                clear p0 p1 pz hn1
                go_wp2_with fail
                go_roundw
                case rel => exact ⟨j + 1, by omega, by go_num, by rw [HS.out]; go_num, B, BG.out⟩
                case measure => simp [intOf]; omega
            · obtain rfl : j = l.length := by omega
              generalize hT : spanM l m l.length = T at *
              clear hT hj hjl hle hsh hs1 hb1 hb2 hsz hsz2
              by_cases h0 : 0 < T
              · have h0i : (0 : Int) < (T : Int) := by omega
                by_cases h1 : k * (S : Int) - r < (T : Int)
                · have HE : Hid (ovcB ((P : Int), l) k r = true) := Lib.hid (by
                    rw [HO.out]
                    refine HNO.out m hlt ?_
                    rw [HOV.out, decide_eq_true h0, decide_eq_true h1]; rfl)
                  obtain ⟨zBG, fBG0, fBG1⟩ := BG.out
                  go_wp2_with (go_at_call 122; refine (setOf_at _ P m hP (by omega)).mono ?_; rintro e w7 ⟨v7, rfl, o7, b⟩; replace B := B.step b; clear b)
                  go_ret2
                  rw [HE.out]
                  exact ⟨⟨_, rfl⟩, B⟩
                · have HF : Hid (overAt P l k r m = false) := Lib.hid (by rw [HOV.out, decide_eq_false h1, Bool.and_false])
                  have h1i : (T : Int) ≤ k * (S : Int) - r := by omega
                  go_wp2_with fail
                  go_roundw
                  case rel =>
                    refine ⟨m + 1, by omega, by omega, by go_num, fun q hq => ?_, B, BG.out⟩
                    by_cases e : q = m
                    · rw [e]; exact HF.out
                    · exact HN.out q (by omega)
                  case measure => simp [intOf]; omega
              · have h0i : ¬ (0 : Int) < (T : Int) := by omega
                obtain rfl : T = 0 := by omega
                have HF : Hid (overAt P l k r m = false) := Lib.hid (by rw [HOV.out, decide_eq_false h0, Bool.false_and])
                clear hmul hsub h0 h0i
                go_wp2_with fail
                go_roundw
                case rel =>
                  refine ⟨m + 1, by omega, by omega, by go_num, fun q hq => ?_, B, BG.out⟩
                  by_cases e : q = m
                  · rw [e]; exact HF.out
                  · exact HN.out q (by omega)
                case measure => simp [intOf]; omega
    · obtain rfl : m = Q := by omega
      have HE : Hid (ovcB ((P : Int), l) k r = false) := Lib.hid (by rw [HO.out]; exact HNA.out HN.out)
      obtain ⟨zBG, fBG0, fBG1⟩ := BG.out
      go_wp2_with fail
      go_ret2
      rw [HE.out]
      exact ⟨⟨_, rfl⟩, B.step (belAl _ _)⟩
set_option maxHeartbeats 4000000 in
theorem implSparse_at (W : World) (p : Int) (a : Option Addr) (cap : Nat) (l : List BarT) (h : BarsAt W a l.length l) (hs : l.length ≤ 1048576) (k r : Int) : Calls Tryz.prog 38 #[.agg #[.int .i64 p, .slice a l.length cap], .int .i64 k, .int .i64 r] W fun e w' => e = .returned (.bool (sparseB (p, l) k r)) ∧ Below W.heap.size W w' := by
  have hwd := @Wd.cells
  have HGr : Hid (IsGraph W (.agg #[.int .i64 p, .slice a l.length cap]) (p, l)) := Lib.hid ⟨a, cap, rfl, h⟩
  have H1 := Lib.hid h
  clear h
  have hsz : szGraph (p, l) ≤ 1048576 := hs
  have hsz2 : szGraph (p, l) ≤ 1099511627776 := Nat.le_trans hsz (by decide)
  have B : Below W.heap.size W (W.alloc (.cells #[.int .i64 p, .slice a l.length cap] 26)) := (Below.refl _ _).alloc (Nat.le_refl _) _
  have BG : Hid (BoxGr (W.alloc (.cells #[.int .i64 p, .slice a l.length cap] 26)) W.heap.size p a l.length cap) := Lib.hid (BoxGr.at rfl)
  have HCG : Hid (∀ w1 : World, Below W.heap.size W w1 → Calls Tryz.prog 61 #[.agg #[.int .i64 p, .slice a l.length cap]] w1 fun e w' => e = .returned (.bool (isGraphB (p, l))) ∧ Below w1.heap.size w1 w') := Lib.hid fun w1 b => impl_IsGraph_is w1 _ (p, l) (HGr.out.below b) hsz2
  have HCO : Hid (∀ w1 : World, Below W.heap.size W w1 → Calls Tryz.prog 86 #[.agg #[.int .i64 p, .slice a l.length cap], .int .i64 k, .int .i64 r] w1 (RetOv w1 (ovcB (p, l) k r))) := Lib.hid fun w1 b => implOvc_at w1 p a cap l (H1.out.below b) hs k r
  have HB : Hid (sparseB (p, l) k r = ((isGraphB (p, l) && rangeB k r) && !ovcB (p, l) k r)) := Lib.hid (by
    unfold sparseB ovcB
    cases isGraphB (p, l) && rangeB k r <;> simp)
  go_enter Tryz.func38, Tryz.ntmps38
  go_wp2_with fail
  generalize (W.alloc (.cells #[.int .i64 p, .slice a l.length cap] 26)) = u at *
  obtain ⟨zBG, fBG0, fBG1⟩ := BG.out
  go_wp2_with fail
  clear zBG fBG0 fBG1
  refine (HCO.out _ B).mono ?_
  rintro e w1 ⟨⟨vo, rfl⟩, b⟩
  have hz1 := b.size
  replace B := B.step b
  replace BG := Lib.hid (BG.out.below b)
  clear b
  generalize ovcB (p, l) k r = o at *
  obtain ⟨zBG, fBG0, fBG1⟩ := BG.out
  go_wp2_with fail
  clear zBG fBG0 fBG1
  refine (HCG.out _ B).mono ?_
  rintro e w2 ⟨rfl, b⟩
  have hz2 := b.size
  replace B := B.step b
  replace BG := Lib.hid (BG.out.below b)
  clear b
  have HCR := Lib.hid (implRange_any k r w2)
  generalize isGraphB (p, l) = g at *
  generalize rangeB k r = rr at *
  cases g
  · go_wp2_with fail
    go_ret
    rw [HB.out]
    exact ⟨rfl, B⟩
  · cases rr
    · go_wp2_with (go_at_call 87; refine HCR.out.mono ?_; rintro e w3 ⟨rfl, b⟩; have hz3 := b.size; replace B := B.step b; clear b)
      go_ret
      rw [HB.out]
      exact ⟨rfl, B⟩
    · cases o
      · go_wp2_with (go_at_call 87; refine HCR.out.mono ?_; rintro e w3 ⟨rfl, b⟩; have hz3 := b.size; replace B := B.step b; clear b)
        go_ret
        rw [HB.out]
        exact ⟨rfl, B⟩
      · go_wp2_with (go_at_call 87; refine HCR.out.mono ?_; rintro e w3 ⟨rfl, b⟩; have hz3 := b.size; replace B := B.step b; clear b)
        go_ret
        rw [HB.out]
        exact ⟨rfl, B⟩
set_option maxHeartbeats 4000000 in
theorem implTight_at (W : World) (p : Int) (a : Option Addr) (cap : Nat) (l : List BarT) (h : BarsAt W a l.length l) (hs : l.length ≤ 1048576) (k r : Int) : Calls Tryz.prog 48 #[.agg #[.int .i64 p, .slice a l.length cap], .int .i64 k, .int .i64 r] W fun e w' => e = .returned (.bool (tightB (p, l) k r)) ∧ Below W.heap.size W w' := by
  have hwd := @Wd.cells
  have HGr : Hid (IsGraph W (.agg #[.int .i64 p, .slice a l.length cap]) (p, l)) := Lib.hid ⟨a, cap, rfl, h⟩
  have H1 := Lib.hid h
  clear h
  have hsz : szGraph (p, l) ≤ 1048576 := hs
  have hsz2 : szGraph (p, l) ≤ 1099511627776 := Nat.le_trans hsz (by decide)
  have B : Below W.heap.size W (W.alloc (.cells #[.int .i64 p, .slice a l.length cap] 26)) := (Below.refl _ _).alloc (Nat.le_refl _) _
  have BG : Hid (BoxGr (W.alloc (.cells #[.int .i64 p, .slice a l.length cap] 26)) W.heap.size p a l.length cap) := Lib.hid (BoxGr.at rfl)
  have HCS : Hid (∀ w1 : World, Below W.heap.size W w1 → Calls Tryz.prog 38 #[.agg #[.int .i64 p, .slice a l.length cap], .int .i64 k, .int .i64 r] w1 fun e w' => e = .returned (.bool (sparseB (p, l) k r)) ∧ Below w1.heap.size w1 w') := Lib.hid fun w1 b => implSparse_at w1 p a cap l (H1.out.below b) hs k r
  go_enter Tryz.func48, Tryz.ntmps48
  go_wp2_with fail
  generalize (W.alloc (.cells #[.int .i64 p, .slice a l.length cap] 26)) = u at *
  obtain ⟨zBG, fBG0, fBG1⟩ := BG.out
  go_wp2_with fail
  clear zBG fBG0 fBG1
  refine (HCS.out _ B).mono ?_
  rintro e w1 ⟨rfl, b⟩
  have hz1 := b.size
  replace B := B.step b
  replace BG := Lib.hid (BG.out.below b)
  clear b
  cases hsp : sparseB (p, l) k r
  · have HE : Hid (tightB (p, l) k r = false) := Lib.hid (by unfold tightB; rw [hsp]; rfl)
    go_wp2_with fail
    go_ret
    rw [HE.out]
    exact ⟨rfl, B⟩
  · have hgr : isGraphB (p, l) = true ∧ rangeB k r = true := by
      unfold sparseB at hsp
      simp only [Bool.and_eq_true] at hsp
      exact hsp.1
    have HE : Hid (tightB (p, l) k r = ((l.length : Int) == max 0 (k * p - r))) := Lib.hid (by unfold tightB; rw [hsp]; rfl)
    obtain ⟨⟨hg1, hg2⟩, hg3⟩ := isGraphB_bd hgr.1
    have hkr : (1 ≤ k ∧ k ≤ 3) ∧ 0 ≤ r ∧ r ≤ 5 := by
      have hr := hgr.2
      unfold rangeB inB at hr
      simp only [Bool.and_eq_true, decide_eq_true_eq] at hr
      omega
    have hb1 : 0 ≤ k * p := Int.mul_nonneg (by omega) (by omega)
    have hb2 : k * p ≤ 3 * 8 := Int.mul_le_mul (by omega) (by omega) (by omega) (by omega)
    have hmul := IntWalk.i64_in (k * p) (by omega)
    have hsub := IntWalk.i64_in (k * p - r) (by omega)
    clear hsp hgr
    obtain ⟨zBG, fBG0, fBG1⟩ := BG.out
    go_wp2_with fail
    go_ret
    rw [HE.out]
    exact ⟨rfl, B⟩
end Go.Proofs.YtfbmpkdjhhcnpaaGreat

