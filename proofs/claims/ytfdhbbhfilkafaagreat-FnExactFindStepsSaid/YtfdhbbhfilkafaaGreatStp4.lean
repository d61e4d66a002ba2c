/- A bar taken out of a graph, both sides. No condition but sizes and room. -/
import Derived.Test.YtfdhbbhfilkafaaGreatStp3
import Derived.Deep.RegionHeld3
import Derived.OwnWalk
namespace Go.Proofs.YtfdhbbhfilkafaaGreat
open Go.RowKit
set_option maxRecDepth 100000
set_option linter.unusedVariables false
set_option linter.unusedSimpArgs false

/-- a reslice of bars from a place on -/
theorem cutBfrom {b off n m j c : Nat} (hn : n = m + j) (hc : n ≤ c) (hm : c ≤ 9223372036854775807) : ∃ o' c', (∀ w, (Instr.slice 24 (.slice (some ⟨b, off, none⟩) n c) (some (.int .i64 (j : Int))) none none).run Tryz.prog w = .ok (.slice (some ⟨b, o', none⟩) m c') w) ∧ (0 < m → o' = off + j * 2) := by
  subst hn
  by_cases h : c = j
  · have hm0 : m = 0 := by omega
    subst hm0
    subst h
    refine ⟨off, 0, fun w => ?_, fun h => absurd h (by omega)⟩
    go_simp
  · refine ⟨off + j * 2, c - j, fun w => ?_, fun _ => rfl⟩
    go_simp
    omega
theorem cutBto {b off n j c : Nat} (hn : j ≤ n) (hc : n ≤ c) (hm : c ≤ 9223372036854775807) (w : World) : (Instr.slice 24 (.slice (some ⟨b, off, none⟩) n c) none (some (.int .i64 (j : Int))) none).run Tryz.prog w = .ok (.slice (some ⟨b, off, none⟩) j c) w := by
  go_simp
  intro h
  omega
theorem BarsAt.takeB {W : World} {a : Option Addr} {n m : Nat} {r : List BarT} (h : BarsAt W a n r) (hm : m ≤ n) : BarsAt W a m (r.take m) :=
  ⟨by rw [List.length_take, h.1]; omega, fun k hk => by
    obtain ⟨b, off, x, h1, h2, h3, h4⟩ := h.2 k (by omega)
    exact ⟨b, off, x, h1, h2, by rw [List.getElem?_take_of_lt hk]; exact h3, h4⟩⟩
theorem BarsAt.dropB {W : World} {b off o' : Nat} {n m j : Nat} {r : List BarT} (h : BarsAt W (some ⟨b, off, none⟩) n r) (hn : n = m + j) (ho : 0 < m → o' = off + j * 2) : BarsAt W (some ⟨b, o', none⟩) m (r.drop j) :=
  ⟨by rw [List.length_drop, h.1]; omega, fun k hk => by
    obtain ⟨b1, off1, x, h1, h2, h3, h4, h5⟩ := h.2 (k + j) (by omega)
    obtain ⟨rfl, rfl⟩ : b = b1 ∧ off = off1 := by simp at h1; exact h1
    rw [ho (by omega)]
    refine ⟨b, off + j * 2, x, rfl, h2, by rw [List.getElem?_drop, Nat.add_comm]; exact h3, ?_, ?_⟩
    · rw [show off + j * 2 + k * 2 = off + (k + j) * 2 by omega]; exact h4
    · rw [show off + j * 2 + k * 2 + 1 = off + (k + j) * 2 + 1 by omega]; exact h5⟩
theorem BarsAt.keptB {S : Nat → Prop} {W W' : World} {b off n : Nat} {r : List BarT} (h : BarsAt W (some ⟨b, off, none⟩) n r) (hk : Kept S W W') (hs : ¬ S b) : BarsAt W' (some ⟨b, off, none⟩) n r :=
  ⟨h.1, fun k hkn => by
    obtain ⟨b1, off1, x, h1, h2, h3, h4, h5⟩ := h.2 k hkn
    obtain ⟨rfl, rfl⟩ : b = b1 ∧ off = off1 := by simp at h1; exact h1
    exact ⟨b, off, x, rfl, Nat.lt_of_lt_of_le h2 hk.size, h3, (hk.cell h2 hs).trans h4, (hk.cell h2 hs).trans h5⟩⟩
theorem OwnBars.cap {W : World} {base : Nat} {a : Option Addr} {n c : Nat} {l : List BarT} (h : OwnBars W base (.slice a n c) l) : n ≤ c ∧ c ≤ 9223372036854775807 := by
  rcases h.2 with ⟨h1, h0⟩ | ⟨g', cap, cur, h1, hb, hg, h2⟩
  · simp at h1
    omega
  · simp at h1
    have : maxLen = 9223372036854775807 := rfl
    omega
/-- the first bars of a row of the call's own are the call's own -/
theorem OwnBars.takeB {W : World} {base : Nat} {g n c j : Nat} {l : List BarT} (h : OwnBars W base (.slice (some ⟨g, 0, none⟩) n c) l) (hj : j ≤ l.length) : OwnBars W base (.slice (some ⟨g, 0, none⟩) j c) (l.take j) := by
  rcases h.2 with ⟨h1, h0⟩ | ⟨g', cap, cur, h1, hb, hg, h2, h3, h4, h5⟩
  · simp at h1
  · simp at h1
    obtain ⟨rfl, rfl, rfl⟩ := h1
    have hl : (l.take j).length = j := by rw [List.length_take]; omega
    have e1 : (l.take j).flatMap cellsBar = (l.flatMap cellsBar).take (j * 2) := by
      have e2 : l.flatMap cellsBar = (l.take j).flatMap cellsBar ++ (l.drop j).flatMap cellsBar := by rw [← List.flatMap_append, List.take_append_drop]
      have e3 : ((l.take j).flatMap cellsBar).length = j * 2 := by rw [flat2 cellsBar (fun _ => rfl), hl]
      conv => rhs; rw [e2]
      rw [List.take_append_of_le_length (Nat.le_of_eq e3.symm), List.take_of_length_le (Nat.le_of_eq e3)]
    unfold OwnBars
    rw [hl]
    refine ⟨by rw [flat2 cellsBar (fun _ => rfl), hl], .inr ⟨g, c, cur, rfl, hb, hg, by omega, h3, h4, ?_⟩⟩
    rw [e1, ← h5, List.take_take, Nat.min_eq_left (by omega)]
def cutG (l : List BarT) (k : Nat) : List BarT := l.take k ++ l.drop (k + 1)
theorem cutG_length {l : List BarT} {k : Nat} (h : k < l.length) : (cutG l k).length = l.length - 1 := by
  unfold cutG; rw [List.length_append, List.length_take, List.length_drop]; omega
def RetGB (W : World) (g : GraphT) (b : Bool) (e : Ending) (w' : World) : Prop := ∃ v, e = .returned (.tuple #[v, .bool b]) ∧ OwnGraph w' W.heap.size v g ∧ Below W.heap.size W w'

set_option maxHeartbeats 8000000 in
theorem specRem_at (W : World) (p : Int) (a : Option Addr) (cap : Nat) (l : List BarT) (h : BarsAt W a l.length l) (hs : l.length ≤ 1048576) (hg : isGraphB (p, l) = true) (k : Nat) (hk : k < l.length) (hcap : l.length ≤ cap) (hcm : cap ≤ 9223372036854775807) :
    Calls Tryz.prog 109 #[.agg #[.int .i64 p, .slice a l.length cap], .int .i64 (k : Int)] W (RetGB W (p, cutG l k) true) := by
  have hwd := @Wd.cells
  have HGr : Hid (IsGraph W (.agg #[.int .i64 p, .slice a l.length cap]) (p, l)) := Lib.hid ⟨a, cap, rfl, h⟩
  have H1 := Lib.hid h
  clear h
  have hsz : szGraph (p, l) ≤ 1048576 := hs
  have hsz2 : szGraph (p, l) ≤ 1099511627776 := Nat.le_trans hsz (by decide)
  have B : Below W.heap.size W (W.alloc (.cells #[.int .i64 p, .slice a l.length cap] 26)) := (Below.refl _ _).alloc (Nat.le_refl _) _
  have BG : Hid (BoxGr (W.alloc (.cells #[.int .i64 p, .slice a l.length cap] 26)) W.heap.size p a l.length cap) := Lib.hid (BoxGr.at rfl)
  have HG := Lib.hid hg
  clear hg
  have HZ : Hid (Zer2 ((W.alloc (.cells #[.int .i64 p, .slice a l.length cap] 26)).alloc (.cells #[.int .i64 0, .slice none 0 0] 26)) (W.heap.size + 1)) := Lib.hid (by have := Zer2.at (W.alloc (.cells #[.int .i64 p, .slice a l.length cap] 26)) 26; rwa [World.size_alloc] at this)
  have ba := belAl (W.alloc (.cells #[.int .i64 p, .slice a l.length cap] 26)) (.cells #[.int .i64 0, .slice none 0 0] 26)
  have hz : W.heap.size + 2 ≤ ((W.alloc (.cells #[.int .i64 p, .slice a l.length cap] 26)).alloc (.cells #[.int .i64 0, .slice none 0 0] 26)).heap.size := by simp
  replace B := B.step ba
  replace BG := Lib.hid (BG.out.below ba)
  clear ba
  have hki : ¬ ((k : Int) ≥ (l.length : Int)) := by omega
  have hki2 : ¬ ((l.length : Int) ≤ (k : Int)) := by omega
  have hk0 : ¬ ((k : Int) < 0) := by omega
  go_enter Tryz.func109, Tryz.ntmps109
  go_upto_region 1 with (fail)
  generalize ((W.alloc (.cells #[.int .i64 p, .slice a l.length cap] 26)).alloc (.cells #[.int .i64 0, .slice none 0 0] 26)) = u at *
  obtain ⟨zBG, fBG0, fBG1⟩ := BG.out
  go_wp2_with fail
  clear zBG fBG0 fBG1
  refine (specIsGraph_at u p a cap l (H1.out.below B) (by omega)).mono ?_
  rintro e w1 ⟨rfl, b1⟩
  rw [HG.out]
  have hz1 := b1.size
  have B1 := B.step b1
  have BG1 := Lib.hid (BG.out.below b1)
  have Z1 := Lib.hid (HZ.out.below b1)
  obtain ⟨bb, off, x, rfl, hbl, -, -, -⟩ := H1.out.2 k hk
  have HI1 := Lib.hid (H1.out.below B1)
  clear b1 B BG HZ
  obtain ⟨o2, c2, hS2, ho2⟩ := cutBfrom (b := bb) (off := off) (n := l.length) (m := l.length - (k + 1)) (j := k + 1) (c := cap) (by omega) hcap hcm
  have hS1 := fun w => cutBto (b := bb) (off := off) (n := l.length) (j := k) (c := cap) (by omega) hcap hcm w
  have hadd := IntWalk.i64_in ((k : Int) + 1) (by omega)
  have hcast : ((k : Int) + 1) = ((k + 1 : Nat) : Int) := by omega
  rw [← hcast] at hS2
  have HO2 := Lib.hid ho2
  clear ho2 hcast
  have d0 : w1.drew.cell? ⟨W.heap.size, 0, none⟩ = _ := BG1.out.c0
  have d1 : w1.drew.cell? ⟨W.heap.size, 1, none⟩ = _ := BG1.out.c1
  have bu : Below w1.heap.size w1 (w1.alloc (.cells #[] 78)).drew := ((Below.refl _ w1).alloc (Nat.le_refl _) _).drew
  have k0 : (w1.alloc (.cells #[] 78)).drew.cell? ⟨W.heap.size, 0, none⟩ = some (.int .i64 p) := ((bcell bu).1 _ _ (by omega)).trans BG1.out.c0
  have k1 : (w1.alloc (.cells #[] 78)).drew.cell? ⟨W.heap.size, 1, none⟩ = some (.slice (some ⟨bb, off, none⟩) l.length cap) := ((bcell bu).1 _ _ (by omega)).trans BG1.out.c1
  have hz2 : w1.heap.size + 1 ≤ (w1.alloc (.cells #[] 78)).drew.heap.size := by show _ ≤ (w1.alloc (.cells #[] 78)).heap.size; simp
  have HHO : Hid (OwnBars (w1.alloc (.cells #[] 78)).drew w1.heap.size (.slice (some ⟨w1.heap.size, 0, none⟩) 0 0) []) := Lib.hid (OwnBars.made w1 _ (Nat.le_refl _))
  have HHS : Hid (BarsAt (w1.alloc (.cells #[] 78)).drew (some ⟨bb, off, none⟩) l.length l) := Lib.hid (HI1.out.below bu)
  have e0 : W.heap.size < w1.drew.heap.size := by show _ < w1.heap.size; omega
  have e1 : W.heap.size + 1 < w1.drew.heap.size := by show _ < w1.heap.size; omega
  have hbb : bb < w1.heap.size := by omega
  have ZA := Lib.hid (Z1.out.below bu)
  have BA := Lib.hid (B1.step bu)
  have tk1 := True.intro
  have tk2 := True.intro
  obtain ⟨zBG, fBG0, fBG1⟩ := BG1.out
  go_wp2_with fail
  clear zBG fBG0 fBG1
  go_region_held3 (fun w' => w'.cell? ⟨W.heap.size, 0, none⟩ = some (.int .i64 p) ∧ w'.cell? ⟨W.heap.size, 1, none⟩ = some (.slice (some ⟨bb, off, none⟩) l.length cap))
    (first | (with_reducible exact ⟨d0, d1⟩) | (with_reducible exact ⟨k0, k1⟩) | (with_reducible exact ⟨c0, c1⟩) | (with_reducible exact ⟨cc0, cc1⟩) | (go_keep))
    (first
      | (clear tk1
         refine stepAppBars (by rfl) _ _ (by rfl) (by rfl) HHO.out (by rfl) (HHS.out.takeB (m := k) (by omega)) (by simp; omega) (by simp [World.drew]) ?_
         intro v' w2 ho hk2 ha
         rw [List.nil_append] at ho
         have HB := Lib.hid ho
         obtain ⟨a', c', rfl, hi'⟩ := ho.form
         clear ho
         have hnb : ∀ b, b < w1.heap.size → ¬ (some b = Value.ownBlock (.slice (some ⟨w1.heap.size, 0, none⟩) 0 0)) := fun b hb hh => by simp [Value.ownBlock] at hh; omega
         have c0 := (hk2.cell (o := 0) (by omega) (hnb W.heap.size (by omega))).trans k0
         have c1 := (hk2.cell (o := 1) (by omega) (hnb W.heap.size (by omega))).trans k1
         have HK2 := Lib.hid (HHS.out.keptB hk2 (hnb bb hbb))
         have Z2 := Lib.hid (ZA.out.kept hk2 (hnb _ (by omega)))
         have B2 := Lib.hid (BA.out.trans (hk2.setOwn HHO.out (B := W.heap.size) (by omega) (by omega)))
         have hsz2' := hk2.size
         have hz3 : w1.heap.size + 1 ≤ w2.heap.size := by omega
         have hlt := (HB.out.lt)
         have HLT := Lib.hid hlt
         clear hlt)
      | (clear tk2
         refine stepAppBars (by rfl) _ _ (by rfl) (by rfl) HB.out (by rfl) (HK2.out.dropB (j := k + 1) (by omega) HO2.out) (by simp; omega) (by omega) ?_
         intro v'' w3 ho3 hk3 ha3
         have HB3 := Lib.hid ho3
         obtain ⟨a'', c'', rfl, hi''⟩ := ho3.form
         clear ho3
         have hnb3 : ∀ b, b < w1.heap.size → ¬ (some b = Value.ownBlock (.slice a' (l.take k).length c')) := fun b hb hh => by have := (HLT.out b hh.symm).1; omega
         have cc0 := (hk3.cell (o := 0) (by omega) (hnb3 W.heap.size (by omega))).trans c0
         have cc1 := (hk3.cell (o := 1) (by omega) (hnb3 W.heap.size (by omega))).trans c1
         have Z3 := Lib.hid (Z2.out.kept hk3 (hnb3 _ (by omega)))
         obtain ⟨⟨r0, r1, r2, q0, q1⟩, ⟨y0, y1⟩, zg⟩ := Z3.out
         have B3 := Lib.hid (B2.out.trans (hk3.below (by omega) fun j h1 h2 => by have := (HLT.out j h2.symm).1; omega))
         have hsz3' := hk3.size
         have hz4 : w1.heap.size + 1 ≤ w3.heap.size := by omega))
  have HLM := Lib.hid (show min k l.length + (l.length - (k + 1)) = (cutG l k).length by rw [cutG_length hk]; omega)
  rw [HLM.out]
  go_wp2_with fail
  refine bodyPost_ret (v := .tuple #[.agg #[.int .i64 p, .slice a'' (cutG l k).length c''], .bool true]) (by simp [results, Tryz.results109, go_sem, zg, q0, q1]) rfl ⟨_, rfl, ?_⟩
  have h9 : OwnBars w3 w1.heap.size (.slice a'' (cutG l k).length c'') (cutG l k) := by
    have := HB3.out
    rw [← HLM.out]
    show OwnBars _ _ _ (l.take k ++ l.drop (k + 1))
    simpa using this
  exact laid2 h9 (by omega) (by omega) (by omega) B3.out

end Go.Proofs.YtfdhbbhfilkafaaGreat
