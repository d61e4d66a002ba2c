/- Copies of graphs and frameworks. No condition but sizes. -/
import Derived.Test.YtkjoeogoebpkjaaCpy
import Derived.Deep.RegionHeld3
namespace Go.Proofs.Ytkjoeogoebpkjaa
open Go.RowKit
set_option maxRecDepth 100000
set_option linter.unusedVariables false
set_option linter.unusedSimpArgs false


set_option maxHeartbeats 8000000 in
theorem implCpF_at (W : World) (p : Int) (a : Option Addr) (cap n : Nat) (l : List BarT) (c : Option Addr) (capc t : Nat) (q : List PlaceT) (h : BarsAt W a n l) (hq : PlacesAt W c t q) (hn : n ≤ 1048576) (ht : t ≤ 1048576) :
    Calls Try.prog 84 #[.agg #[.int .i64 p, .slice a n cap, .slice c t capc]] W (RetFw W (p, l, q)) := by
  have HI := Lib.hid h
  have HJ := Lib.hid hq
  clear h hq
  have hb0 : Below W.heap.size W (((W.alloc (.cells #[.int .i64 p, .slice a n cap, .slice c t capc] 42)).alloc (.cells #[.int .i64 0, .slice none 0 0, .slice none 0 0] 42))) := ((Below.refl _ W).alloc (Nat.le_refl _) _).alloc (by simp) _
  have f0 : (((W.alloc (.cells #[.int .i64 p, .slice a n cap, .slice c t capc] 42)).alloc (.cells #[.int .i64 0, .slice none 0 0, .slice none 0 0] 42))).cell? ⟨W.heap.size, 0, none⟩ = some (.int .i64 p) := by simp [World.cell?_alloc_new]
  have f1 : (((W.alloc (.cells #[.int .i64 p, .slice a n cap, .slice c t capc] 42)).alloc (.cells #[.int .i64 0, .slice none 0 0, .slice none 0 0] 42))).cell? ⟨W.heap.size, 1, none⟩ = some (.slice a n cap) := by simp [World.cell?_alloc_new]
  have f2 : (((W.alloc (.cells #[.int .i64 p, .slice a n cap, .slice c t capc] 42)).alloc (.cells #[.int .i64 0, .slice none 0 0, .slice none 0 0] 42))).cell? ⟨W.heap.size, 2, none⟩ = some (.slice c t capc) := by simp [World.cell?_alloc_new]
  have r0 : (((W.alloc (.cells #[.int .i64 p, .slice a n cap, .slice c t capc] 42)).alloc (.cells #[.int .i64 0, .slice none 0 0, .slice none 0 0] 42))).cell? ⟨W.heap.size + 1, 0, none⟩ = some (.int .i64 0) := by simp [World.cell?_alloc_new]
  have r1 : (((W.alloc (.cells #[.int .i64 p, .slice a n cap, .slice c t capc] 42)).alloc (.cells #[.int .i64 0, .slice none 0 0, .slice none 0 0] 42))).cell? ⟨W.heap.size + 1, 1, none⟩ = some (.slice none 0 0) := by simp [World.cell?_alloc_new]
  have r2 : (((W.alloc (.cells #[.int .i64 p, .slice a n cap, .slice c t capc] 42)).alloc (.cells #[.int .i64 0, .slice none 0 0, .slice none 0 0] 42))).cell? ⟨W.heap.size + 1, 2, none⟩ = some (.slice none 0 0) := by simp [World.cell?_alloc_new]
  have z0 : (((W.alloc (.cells #[.int .i64 p, .slice a n cap, .slice c t capc] 42)).alloc (.cells #[.int .i64 0, .slice none 0 0, .slice none 0 0] 42))).frozen? ⟨W.heap.size + 1, 0, none⟩ = false := by simp [World.frozen?_alloc_new]
  have z1 : (((W.alloc (.cells #[.int .i64 p, .slice a n cap, .slice c t capc] 42)).alloc (.cells #[.int .i64 0, .slice none 0 0, .slice none 0 0] 42))).frozen? ⟨W.heap.size + 1, 1, none⟩ = false := by simp [World.frozen?_alloc_new]
  have z2 : (((W.alloc (.cells #[.int .i64 p, .slice a n cap, .slice c t capc] 42)).alloc (.cells #[.int .i64 0, .slice none 0 0, .slice none 0 0] 42))).frozen? ⟨W.heap.size + 1, 2, none⟩ = false := by simp [World.frozen?_alloc_new]
  have hu : (((W.alloc (.cells #[.int .i64 p, .slice a n cap, .slice c t capc] 42)).alloc (.cells #[.int .i64 0, .slice none 0 0, .slice none 0 0] 42))).heap.size = W.heap.size + 2 := by simp
  have HF := Lib.hid (And.intro f0 (And.intro f1 f2))
  have HR := Lib.hid (And.intro r0 (And.intro r1 r2))
  have HZ := Lib.hid (And.intro z0 (And.intro z1 z2))
  clear f0 f1 f2 r0 r1 r2 z0 z1 z2
  go_enter Try.func84, Try.ntmps84
  go_wp2_with fail
  generalize ((W.alloc (.cells #[.int .i64 p, .slice a n cap, .slice c t capc] 42)).alloc (.cells #[.int .i64 0, .slice none 0 0, .slice none 0 0] 42)) = u at *
  have hu1 : u.heap.size ≤ W.heap.size + 2 := by omega
  have hu2 : W.heap.size + 2 ≤ u.heap.size := by omega
  clear hu
  have d0 : u.drew.cell? ⟨W.heap.size, 0, none⟩ = _ := HF.out.1
  have d1 : u.drew.cell? ⟨W.heap.size, 1, none⟩ = _ := HF.out.2.1
  have d2 : u.drew.cell? ⟨W.heap.size, 2, none⟩ = _ := HF.out.2.2
  have bd : Below u.heap.size u u.drew := (Below.refl _ _).drew
  have bu : Below u.heap.size u (u.alloc (.cells #[] 57)).drew := ((Below.refl _ u).alloc (Nat.le_refl _) _).drew
  have s0 : (u.alloc (.cells #[] 57)).drew.cell? ⟨W.heap.size, 0, none⟩ = some (.int .i64 p) := ((bcell bu).1 _ _ (by omega)).trans HF.out.1
  have s1 : (u.alloc (.cells #[] 57)).drew.cell? ⟨W.heap.size, 1, none⟩ = some (.slice a n cap) := ((bcell bu).1 _ _ (by omega)).trans HF.out.2.1
  have s2 : (u.alloc (.cells #[] 57)).drew.cell? ⟨W.heap.size, 2, none⟩ = some (.slice c t capc) := ((bcell bu).1 _ _ (by omega)).trans HF.out.2.2
  have hz2 : u.heap.size + 1 ≤ (u.alloc (.cells #[] 57)).drew.heap.size := by show _ ≤ (u.alloc (.cells #[] 57)).heap.size; simp
  have HO2 : Hid (OwnPlaces (u.alloc (.cells #[] 57)).drew u.heap.size (.slice (some ⟨u.heap.size, 0, none⟩) 0 0) []) := Lib.hid (OwnPlaces.made u _ (Nat.le_refl _))
  have hnb : ∀ b, b < u.heap.size → ∀ g, u.heap.size ≤ g → ¬ (some b = Value.ownBlock (.slice (some ⟨g, 0, none⟩) 0 0)) := fun b hb g hg hh => by simp [Value.ownBlock] at hh; omega
  have HNB := Lib.hid hnb
  clear hnb
  go_region_held3 (fun w' => w'.cell? ⟨W.heap.size, 0, none⟩ = some (.int .i64 p) ∧ w'.cell? ⟨W.heap.size, 1, none⟩ = some (.slice a n cap) ∧ w'.cell? ⟨W.heap.size, 2, none⟩ = some (.slice c t capc))
    (first | (with_reducible exact ⟨d0, d1, d2⟩) | (with_reducible exact ⟨s0, s1, s2⟩) | (with_reducible exact ⟨k0, k1, k2⟩) | (with_reducible exact ⟨j0, j1, j2⟩) | (with_reducible exact ⟨c0, c1, c2⟩) | (go_keep))
    (first
      | (clear s0 s1 s2
         go_at_call 104
         refine (implCpG_at u.drew p a cap n l (HI.out.below (hb0.trans (bd.mono (by omega)))) hn).mono ?_
         rintro e w1 ⟨vg, rfl, ⟨vb, ⟨ab, cb, rfl, rfl⟩, ob⟩, b1⟩
         clear d0 d1 d2
         have OB := Lib.hid ob
         clear ob
         have b2 : Below u.heap.size u w1 := bd.trans b1
         have zs := b2.size
         have k0 : w1.cell? ⟨W.heap.size, 0, none⟩ = _ := ((bcell b2).1 _ _ (by omega)).trans HF.out.1
         have k1 : w1.cell? ⟨W.heap.size, 1, none⟩ = _ := ((bcell b2).1 _ _ (by omega)).trans HF.out.2.1
         have k2 : w1.cell? ⟨W.heap.size, 2, none⟩ = _ := ((bcell b2).1 _ _ (by omega)).trans HF.out.2.2
         have m0 : w1.cell? ⟨W.heap.size + 1, 0, none⟩ = _ := ((bcell b2).1 _ _ (by omega)).trans HR.out.1
         have m1 : w1.cell? ⟨W.heap.size + 1, 1, none⟩ = _ := ((bcell b2).1 _ _ (by omega)).trans HR.out.2.1
         have m2 : w1.cell? ⟨W.heap.size + 1, 2, none⟩ = _ := ((bcell b2).1 _ _ (by omega)).trans HR.out.2.2
         have n0 : w1.frozen? ⟨W.heap.size + 1, 0, none⟩ = _ := ((bcell b2).2 _ _ (by omega)).trans HZ.out.1
         have n1 : w1.frozen? ⟨W.heap.size + 1, 1, none⟩ = _ := ((bcell b2).2 _ _ (by omega)).trans HZ.out.2.1
         have n2 : w1.frozen? ⟨W.heap.size + 1, 2, none⟩ = _ := ((bcell b2).2 _ _ (by omega)).trans HZ.out.2.2

         have bv : Below w1.heap.size w1 (w1.alloc (.cells #[] 57)) := (Below.refl _ w1).alloc (Nat.le_refl _) _
         have j0 : (w1.alloc (.cells #[] 57)).cell? ⟨W.heap.size, 0, none⟩ = some (.int .i64 p) := ((bcell bv).1 _ _ (by omega)).trans k0
         have j1 : (w1.alloc (.cells #[] 57)).cell? ⟨W.heap.size, 1, none⟩ = some (.slice a n cap) := ((bcell bv).1 _ _ (by omega)).trans k1
         have j2 : (w1.alloc (.cells #[] 57)).cell? ⟨W.heap.size, 2, none⟩ = some (.slice c t capc) := ((bcell bv).1 _ _ (by omega)).trans k2
         have b3 : Below u.heap.size u (w1.alloc (.cells #[] 57)) := b2.trans (bv.mono (by omega))
         have HO := Lib.hid (OwnPlaces.made w1 _ (Nat.le_refl _))
         have OB2 := Lib.hid (OB.out.below bv)
         have HOB : Hid (∀ g, Value.ownBlock (.slice ab l.length cb) = some g → g < w1.heap.size) := Lib.hid fun g h => (OB.out.lt g h).2
         have hv : w1.heap.size + 1 ≤ (w1.alloc (.cells #[] 57)).heap.size := by simp
         have hlo : u.heap.size ≤ w1.heap.size := by omega
         clear OB HO2 bu hz2 m0 m1 m2 n0 n1 n2)
      | (clear d0 d1 d2
         go_at_call 104
         refine (implCpG_at (u.alloc (.cells #[] 57)).drew p a cap n l (HI.out.below (hb0.trans (bu.mono (by omega)))) hn).mono ?_
         rintro e w1 ⟨vg, rfl, ⟨vb, ⟨ab, cb, rfl, rfl⟩, ob⟩, b1⟩
         have OB2 := Lib.hid ob
         clear ob
         have b2 : Below u.heap.size u w1 := bu.trans (b1.mono (by omega))
         have zs := b2.size
         have zs2 := b1.size
         have k0 : w1.cell? ⟨W.heap.size, 0, none⟩ = _ := ((bcell b2).1 _ _ (by omega)).trans HF.out.1
         have k1 : w1.cell? ⟨W.heap.size, 1, none⟩ = _ := ((bcell b2).1 _ _ (by omega)).trans HF.out.2.1
         have k2 : w1.cell? ⟨W.heap.size, 2, none⟩ = _ := ((bcell b2).1 _ _ (by omega)).trans HF.out.2.2
         have m0 : w1.cell? ⟨W.heap.size + 1, 0, none⟩ = _ := ((bcell b2).1 _ _ (by omega)).trans HR.out.1
         have m1 : w1.cell? ⟨W.heap.size + 1, 1, none⟩ = _ := ((bcell b2).1 _ _ (by omega)).trans HR.out.2.1
         have m2 : w1.cell? ⟨W.heap.size + 1, 2, none⟩ = _ := ((bcell b2).1 _ _ (by omega)).trans HR.out.2.2
         have n0 : w1.frozen? ⟨W.heap.size + 1, 0, none⟩ = _ := ((bcell b2).2 _ _ (by omega)).trans HZ.out.1
         have n1 : w1.frozen? ⟨W.heap.size + 1, 1, none⟩ = _ := ((bcell b2).2 _ _ (by omega)).trans HZ.out.2.1
         have n2 : w1.frozen? ⟨W.heap.size + 1, 2, none⟩ = _ := ((bcell b2).2 _ _ (by omega)).trans HZ.out.2.2

         have HO := Lib.hid (HO2.out.below b1)
         clear HO2 s0 s1 s2 bu)
      | (refine stepAppPlaces (by rfl) _ _ (by rfl) (by rfl) HO.out (by rfl) (HJ.out.below (hb0.trans (b3.mono (by omega)))) (by simp; omega) (by simp) ?_
         intro v' w3 ho hk ha
         rw [List.nil_append] at ho
         have HB := Lib.hid ho
         obtain ⟨a', c', rfl, hi'⟩ := ho.form
         clear ho
         have hnb := fun b hb => HNB.out b hb w1.heap.size hlo
         have hbw := (hb0.trans (b3.mono (by omega))).trans (hk.setOwn HO.out (B := W.heap.size) (by omega) (by omega))
         have OB3 : Hid (OwnBars w3 (W.heap.size + 2) (.slice ab l.length cb) l) := Lib.hid (ownsRow_base (hk.ownsRow OB2.out fun g h1 h2 => by have h3 := HOB.out g h1; simp only [Value.ownBlock, Option.some.injEq] at h2; omega) (by simp only [World.size_drew, World.size_alloc]; omega))
         have k0 : (w1.alloc (.cells #[] 57)).cell? ⟨W.heap.size, 0, none⟩ = _ := ((bcell b3).1 _ _ (by omega)).trans HF.out.1
         have k1 : (w1.alloc (.cells #[] 57)).cell? ⟨W.heap.size, 1, none⟩ = _ := ((bcell b3).1 _ _ (by omega)).trans HF.out.2.1
         have k2 : (w1.alloc (.cells #[] 57)).cell? ⟨W.heap.size, 2, none⟩ = _ := ((bcell b3).1 _ _ (by omega)).trans HF.out.2.2
         have m0 : (w1.alloc (.cells #[] 57)).cell? ⟨W.heap.size + 1, 0, none⟩ = _ := ((bcell b3).1 _ _ (by omega)).trans HR.out.1
         have m1 : (w1.alloc (.cells #[] 57)).cell? ⟨W.heap.size + 1, 1, none⟩ = _ := ((bcell b3).1 _ _ (by omega)).trans HR.out.2.1
         have m2 : (w1.alloc (.cells #[] 57)).cell? ⟨W.heap.size + 1, 2, none⟩ = _ := ((bcell b3).1 _ _ (by omega)).trans HR.out.2.2
         have n0 : (w1.alloc (.cells #[] 57)).frozen? ⟨W.heap.size + 1, 0, none⟩ = _ := ((bcell b3).2 _ _ (by omega)).trans HZ.out.1
         have n1 : (w1.alloc (.cells #[] 57)).frozen? ⟨W.heap.size + 1, 1, none⟩ = _ := ((bcell b3).2 _ _ (by omega)).trans HZ.out.2.1
         have n2 : (w1.alloc (.cells #[] 57)).frozen? ⟨W.heap.size + 1, 2, none⟩ = _ := ((bcell b3).2 _ _ (by omega)).trans HZ.out.2.2

         have c0 := (hk.cell (o := 0) (by omega) (hnb W.heap.size (by omega))).trans k0
         have c1 := (hk.cell (o := 1) (by omega) (hnb W.heap.size (by omega))).trans k1
         have c2 := (hk.cell (o := 2) (by omega) (hnb W.heap.size (by omega))).trans k2
         have q0 := (hk.cell (o := 0) (by omega) (hnb (W.heap.size + 1) (by omega))).trans m0
         have q1 := (hk.cell (o := 1) (by omega) (hnb (W.heap.size + 1) (by omega))).trans m1
         have q2 := (hk.cell (o := 2) (by omega) (hnb (W.heap.size + 1) (by omega))).trans m2
         have y0 := (hk.frozen (o := 0) (by omega) (hnb (W.heap.size + 1) (by omega))).trans n0
         have y1 := (hk.frozen (o := 1) (by omega) (hnb (W.heap.size + 1) (by omega))).trans n1
         have y2 := (hk.frozen (o := 2) (by omega) (hnb (W.heap.size + 1) (by omega))).trans n2
         have hsz := hk.size
         have q3 : W.heap.size < w3.heap.size := by omega
         have q4 : W.heap.size + 1 < w3.heap.size := by omega)
      | (refine stepAppPlaces (by rfl) _ _ (by rfl) (by rfl) HO.out (by rfl) (HJ.out.below (hb0.trans (b2.mono (by omega)))) (by simp; omega) (by omega) ?_
         intro v' w3 ho hk ha
         rw [List.nil_append] at ho
         have HB := Lib.hid ho
         obtain ⟨a', c', rfl, hi'⟩ := ho.form
         clear ho
         have hnb := fun b hb => HNB.out b hb u.heap.size (Nat.le_refl _)
         have hbw := (hb0.trans (b2.mono (by omega))).trans (hk.setOwn HO.out (B := W.heap.size) (by omega) (by omega))
         have OB3 : Hid (OwnBars w3 (W.heap.size + 2) (.slice ab l.length cb) l) := Lib.hid (ownsRow_base (hk.ownsRow OB2.out fun g h1 h2 => by have := (OB2.out.lt g h1); simp [Value.ownBlock] at h2; omega) (by simp only [World.size_drew, World.size_alloc]; omega))
         have c0 := (hk.cell (o := 0) (by omega) (hnb W.heap.size (by omega))).trans k0
         have c1 := (hk.cell (o := 1) (by omega) (hnb W.heap.size (by omega))).trans k1
         have c2 := (hk.cell (o := 2) (by omega) (hnb W.heap.size (by omega))).trans k2
         have q0 := (hk.cell (o := 0) (by omega) (hnb (W.heap.size + 1) (by omega))).trans m0
         have q1 := (hk.cell (o := 1) (by omega) (hnb (W.heap.size + 1) (by omega))).trans m1
         have q2 := (hk.cell (o := 2) (by omega) (hnb (W.heap.size + 1) (by omega))).trans m2
         have y0 := (hk.frozen (o := 0) (by omega) (hnb (W.heap.size + 1) (by omega))).trans n0
         have y1 := (hk.frozen (o := 1) (by omega) (hnb (W.heap.size + 1) (by omega))).trans n1
         have y2 := (hk.frozen (o := 2) (by omega) (hnb (W.heap.size + 1) (by omega))).trans n2
         have hsz := hk.size
         have q3 : W.heap.size < w3.heap.size := by omega
         have q4 : W.heap.size + 1 < w3.heap.size := by omega)
      | fail)
  all_goals
    go_wp2_with fail
    refine bodyPost_ret (v := .agg #[.int .i64 p, .slice ab l.length cb, .slice a' q.length c']) (by simp [results, Try.results84, go_sem, q4, q0, q1, q2]) rfl ⟨_, rfl, ⟨.slice ab l.length cb, .slice a' q.length c', ⟨ab, cb, a', c', rfl, rfl, rfl⟩, ?_, ?_⟩, ?_⟩
    · exact (((OB3.out.set (by simp) _).set (by simp) _).set (by simp) _).low (by omega)
    · exact (((HB.out.set (by simp; omega) _).set (by simp; omega) _).set (by simp; omega) _).low (by omega)
    · exact ((hbw.setCell (by simp) _).setCell (by simp) _).setCell (by simp) _

set_option maxHeartbeats 8000000 in
theorem specCpF_at (W : World) (p : Int) (a : Option Addr) (cap n : Nat) (l : List BarT) (c : Option Addr) (capc t : Nat) (q : List PlaceT) (h : BarsAt W a n l) (hq : PlacesAt W c t q) (hn : n ≤ 1048576) (ht : t ≤ 1048576) :
    Calls Try.prog 75 #[.agg #[.int .i64 p, .slice a n cap, .slice c t capc]] W (RetFw W (p, l, q)) := by
  have HI := Lib.hid h
  have HJ := Lib.hid hq
  clear h hq
  have hb0 : Below W.heap.size W (((W.alloc (.cells #[.int .i64 p, .slice a n cap, .slice c t capc] 42)).alloc (.cells #[.int .i64 0, .slice none 0 0, .slice none 0 0] 42))) := ((Below.refl _ W).alloc (Nat.le_refl _) _).alloc (by simp) _
  have f0 : (((W.alloc (.cells #[.int .i64 p, .slice a n cap, .slice c t capc] 42)).alloc (.cells #[.int .i64 0, .slice none 0 0, .slice none 0 0] 42))).cell? ⟨W.heap.size, 0, none⟩ = some (.int .i64 p) := by simp [World.cell?_alloc_new]
  have f1 : (((W.alloc (.cells #[.int .i64 p, .slice a n cap, .slice c t capc] 42)).alloc (.cells #[.int .i64 0, .slice none 0 0, .slice none 0 0] 42))).cell? ⟨W.heap.size, 1, none⟩ = some (.slice a n cap) := by simp [World.cell?_alloc_new]
  have f2 : (((W.alloc (.cells #[.int .i64 p, .slice a n cap, .slice c t capc] 42)).alloc (.cells #[.int .i64 0, .slice none 0 0, .slice none 0 0] 42))).cell? ⟨W.heap.size, 2, none⟩ = some (.slice c t capc) := by simp [World.cell?_alloc_new]
  have r0 : (((W.alloc (.cells #[.int .i64 p, .slice a n cap, .slice c t capc] 42)).alloc (.cells #[.int .i64 0, .slice none 0 0, .slice none 0 0] 42))).cell? ⟨W.heap.size + 1, 0, none⟩ = some (.int .i64 0) := by simp [World.cell?_alloc_new]
  have r1 : (((W.alloc (.cells #[.int .i64 p, .slice a n cap, .slice c t capc] 42)).alloc (.cells #[.int .i64 0, .slice none 0 0, .slice none 0 0] 42))).cell? ⟨W.heap.size + 1, 1, none⟩ = some (.slice none 0 0) := by simp [World.cell?_alloc_new]
  have r2 : (((W.alloc (.cells #[.int .i64 p, .slice a n cap, .slice c t capc] 42)).alloc (.cells #[.int .i64 0, .slice none 0 0, .slice none 0 0] 42))).cell? ⟨W.heap.size + 1, 2, none⟩ = some (.slice none 0 0) := by simp [World.cell?_alloc_new]
  have z0 : (((W.alloc (.cells #[.int .i64 p, .slice a n cap, .slice c t capc] 42)).alloc (.cells #[.int .i64 0, .slice none 0 0, .slice none 0 0] 42))).frozen? ⟨W.heap.size + 1, 0, none⟩ = false := by simp [World.frozen?_alloc_new]
  have z1 : (((W.alloc (.cells #[.int .i64 p, .slice a n cap, .slice c t capc] 42)).alloc (.cells #[.int .i64 0, .slice none 0 0, .slice none 0 0] 42))).frozen? ⟨W.heap.size + 1, 1, none⟩ = false := by simp [World.frozen?_alloc_new]
  have z2 : (((W.alloc (.cells #[.int .i64 p, .slice a n cap, .slice c t capc] 42)).alloc (.cells #[.int .i64 0, .slice none 0 0, .slice none 0 0] 42))).frozen? ⟨W.heap.size + 1, 2, none⟩ = false := by simp [World.frozen?_alloc_new]
  have hu : (((W.alloc (.cells #[.int .i64 p, .slice a n cap, .slice c t capc] 42)).alloc (.cells #[.int .i64 0, .slice none 0 0, .slice none 0 0] 42))).heap.size = W.heap.size + 2 := by simp
  have HF := Lib.hid (And.intro f0 (And.intro f1 f2))
  have HR := Lib.hid (And.intro r0 (And.intro r1 r2))
  have HZ := Lib.hid (And.intro z0 (And.intro z1 z2))
  clear f0 f1 f2 r0 r1 r2 z0 z1 z2
  go_enter Try.func75, Try.ntmps75
  go_wp2_with fail
  generalize ((W.alloc (.cells #[.int .i64 p, .slice a n cap, .slice c t capc] 42)).alloc (.cells #[.int .i64 0, .slice none 0 0, .slice none 0 0] 42)) = u at *
  have hu1 : u.heap.size ≤ W.heap.size + 2 := by omega
  have hu2 : W.heap.size + 2 ≤ u.heap.size := by omega
  clear hu
  have d0 : u.drew.cell? ⟨W.heap.size, 0, none⟩ = _ := HF.out.1
  have d1 : u.drew.cell? ⟨W.heap.size, 1, none⟩ = _ := HF.out.2.1
  have d2 : u.drew.cell? ⟨W.heap.size, 2, none⟩ = _ := HF.out.2.2
  have bd : Below u.heap.size u u.drew := (Below.refl _ _).drew
  have bu : Below u.heap.size u (u.alloc (.cells #[] 57)).drew := ((Below.refl _ u).alloc (Nat.le_refl _) _).drew
  have s0 : (u.alloc (.cells #[] 57)).drew.cell? ⟨W.heap.size, 0, none⟩ = some (.int .i64 p) := ((bcell bu).1 _ _ (by omega)).trans HF.out.1
  have s1 : (u.alloc (.cells #[] 57)).drew.cell? ⟨W.heap.size, 1, none⟩ = some (.slice a n cap) := ((bcell bu).1 _ _ (by omega)).trans HF.out.2.1
  have s2 : (u.alloc (.cells #[] 57)).drew.cell? ⟨W.heap.size, 2, none⟩ = some (.slice c t capc) := ((bcell bu).1 _ _ (by omega)).trans HF.out.2.2
  have hz2 : u.heap.size + 1 ≤ (u.alloc (.cells #[] 57)).drew.heap.size := by show _ ≤ (u.alloc (.cells #[] 57)).heap.size; simp
  have HO2 : Hid (OwnPlaces (u.alloc (.cells #[] 57)).drew u.heap.size (.slice (some ⟨u.heap.size, 0, none⟩) 0 0) []) := Lib.hid (OwnPlaces.made u _ (Nat.le_refl _))
  have hnb : ∀ b, b < u.heap.size → ∀ g, u.heap.size ≤ g → ¬ (some b = Value.ownBlock (.slice (some ⟨g, 0, none⟩) 0 0)) := fun b hb g hg hh => by simp [Value.ownBlock] at hh; omega
  have HNB := Lib.hid hnb
  clear hnb
  go_region_held3 (fun w' => w'.cell? ⟨W.heap.size, 0, none⟩ = some (.int .i64 p) ∧ w'.cell? ⟨W.heap.size, 1, none⟩ = some (.slice a n cap) ∧ w'.cell? ⟨W.heap.size, 2, none⟩ = some (.slice c t capc))
    (first | (with_reducible exact ⟨d0, d1, d2⟩) | (with_reducible exact ⟨s0, s1, s2⟩) | (with_reducible exact ⟨k0, k1, k2⟩) | (with_reducible exact ⟨j0, j1, j2⟩) | (with_reducible exact ⟨c0, c1, c2⟩) | (go_keep))
    (first
      | (clear s0 s1 s2
         go_at_call 100
         refine (specCpG_at u.drew p a cap n l (HI.out.below (hb0.trans (bd.mono (by omega)))) hn).mono ?_
         rintro e w1 ⟨vg, rfl, ⟨vb, ⟨ab, cb, rfl, rfl⟩, ob⟩, b1⟩
         clear d0 d1 d2
         have OB := Lib.hid ob
         clear ob
         have b2 : Below u.heap.size u w1 := bd.trans b1
         have zs := b2.size
         have k0 : w1.cell? ⟨W.heap.size, 0, none⟩ = _ := ((bcell b2).1 _ _ (by omega)).trans HF.out.1
         have k1 : w1.cell? ⟨W.heap.size, 1, none⟩ = _ := ((bcell b2).1 _ _ (by omega)).trans HF.out.2.1
         have k2 : w1.cell? ⟨W.heap.size, 2, none⟩ = _ := ((bcell b2).1 _ _ (by omega)).trans HF.out.2.2
         have m0 : w1.cell? ⟨W.heap.size + 1, 0, none⟩ = _ := ((bcell b2).1 _ _ (by omega)).trans HR.out.1
         have m1 : w1.cell? ⟨W.heap.size + 1, 1, none⟩ = _ := ((bcell b2).1 _ _ (by omega)).trans HR.out.2.1
         have m2 : w1.cell? ⟨W.heap.size + 1, 2, none⟩ = _ := ((bcell b2).1 _ _ (by omega)).trans HR.out.2.2
         have n0 : w1.frozen? ⟨W.heap.size + 1, 0, none⟩ = _ := ((bcell b2).2 _ _ (by omega)).trans HZ.out.1
         have n1 : w1.frozen? ⟨W.heap.size + 1, 1, none⟩ = _ := ((bcell b2).2 _ _ (by omega)).trans HZ.out.2.1
         have n2 : w1.frozen? ⟨W.heap.size + 1, 2, none⟩ = _ := ((bcell b2).2 _ _ (by omega)).trans HZ.out.2.2

         have bv : Below w1.heap.size w1 (w1.alloc (.cells #[] 57)) := (Below.refl _ w1).alloc (Nat.le_refl _) _
         have j0 : (w1.alloc (.cells #[] 57)).cell? ⟨W.heap.size, 0, none⟩ = some (.int .i64 p) := ((bcell bv).1 _ _ (by omega)).trans k0
         have j1 : (w1.alloc (.cells #[] 57)).cell? ⟨W.heap.size, 1, none⟩ = some (.slice a n cap) := ((bcell bv).1 _ _ (by omega)).trans k1
         have j2 : (w1.alloc (.cells #[] 57)).cell? ⟨W.heap.size, 2, none⟩ = some (.slice c t capc) := ((bcell bv).1 _ _ (by omega)).trans k2
         have b3 : Below u.heap.size u (w1.alloc (.cells #[] 57)) := b2.trans (bv.mono (by omega))
         have HO := Lib.hid (OwnPlaces.made w1 _ (Nat.le_refl _))
         have OB2 := Lib.hid (OB.out.below bv)
         have HOB : Hid (∀ g, Value.ownBlock (.slice ab l.length cb) = some g → g < w1.heap.size) := Lib.hid fun g h => (OB.out.lt g h).2
         have hv : w1.heap.size + 1 ≤ (w1.alloc (.cells #[] 57)).heap.size := by simp
         have hlo : u.heap.size ≤ w1.heap.size := by omega
         clear OB HO2 bu hz2 m0 m1 m2 n0 n1 n2)
      | (clear d0 d1 d2
         go_at_call 100
         refine (specCpG_at (u.alloc (.cells #[] 57)).drew p a cap n l (HI.out.below (hb0.trans (bu.mono (by omega)))) hn).mono ?_
         rintro e w1 ⟨vg, rfl, ⟨vb, ⟨ab, cb, rfl, rfl⟩, ob⟩, b1⟩
         have OB2 := Lib.hid ob
         clear ob
         have b2 : Below u.heap.size u w1 := bu.trans (b1.mono (by omega))
         have zs := b2.size
         have zs2 := b1.size
         have k0 : w1.cell? ⟨W.heap.size, 0, none⟩ = _ := ((bcell b2).1 _ _ (by omega)).trans HF.out.1
         have k1 : w1.cell? ⟨W.heap.size, 1, none⟩ = _ := ((bcell b2).1 _ _ (by omega)).trans HF.out.2.1
         have k2 : w1.cell? ⟨W.heap.size, 2, none⟩ = _ := ((bcell b2).1 _ _ (by omega)).trans HF.out.2.2
         have m0 : w1.cell? ⟨W.heap.size + 1, 0, none⟩ = _ := ((bcell b2).1 _ _ (by omega)).trans HR.out.1
         have m1 : w1.cell? ⟨W.heap.size + 1, 1, none⟩ = _ := ((bcell b2).1 _ _ (by omega)).trans HR.out.2.1
         have m2 : w1.cell? ⟨W.heap.size + 1, 2, none⟩ = _ := ((bcell b2).1 _ _ (by omega)).trans HR.out.2.2
         have n0 : w1.frozen? ⟨W.heap.size + 1, 0, none⟩ = _ := ((bcell b2).2 _ _ (by omega)).trans HZ.out.1
         have n1 : w1.frozen? ⟨W.heap.size + 1, 1, none⟩ = _ := ((bcell b2).2 _ _ (by omega)).trans HZ.out.2.1
         have n2 : w1.frozen? ⟨W.heap.size + 1, 2, none⟩ = _ := ((bcell b2).2 _ _ (by omega)).trans HZ.out.2.2

         have HO := Lib.hid (HO2.out.below b1)
         clear HO2 s0 s1 s2 bu)
      | (refine stepAppPlaces (by rfl) _ _ (by rfl) (by rfl) HO.out (by rfl) (HJ.out.below (hb0.trans (b3.mono (by omega)))) (by simp; omega) (by simp) ?_
         intro v' w3 ho hk ha
         rw [List.nil_append] at ho
         have HB := Lib.hid ho
         obtain ⟨a', c', rfl, hi'⟩ := ho.form
         clear ho
         have hnb := fun b hb => HNB.out b hb w1.heap.size hlo
         have hbw := (hb0.trans (b3.mono (by omega))).trans (hk.setOwn HO.out (B := W.heap.size) (by omega) (by omega))
         have OB3 : Hid (OwnBars w3 (W.heap.size + 2) (.slice ab l.length cb) l) := Lib.hid (ownsRow_base (hk.ownsRow OB2.out fun g h1 h2 => by have h3 := HOB.out g h1; simp only [Value.ownBlock, Option.some.injEq] at h2; omega) (by simp only [World.size_drew, World.size_alloc]; omega))
         have k0 : (w1.alloc (.cells #[] 57)).cell? ⟨W.heap.size, 0, none⟩ = _ := ((bcell b3).1 _ _ (by omega)).trans HF.out.1
         have k1 : (w1.alloc (.cells #[] 57)).cell? ⟨W.heap.size, 1, none⟩ = _ := ((bcell b3).1 _ _ (by omega)).trans HF.out.2.1
         have k2 : (w1.alloc (.cells #[] 57)).cell? ⟨W.heap.size, 2, none⟩ = _ := ((bcell b3).1 _ _ (by omega)).trans HF.out.2.2
         have m0 : (w1.alloc (.cells #[] 57)).cell? ⟨W.heap.size + 1, 0, none⟩ = _ := ((bcell b3).1 _ _ (by omega)).trans HR.out.1
         have m1 : (w1.alloc (.cells #[] 57)).cell? ⟨W.heap.size + 1, 1, none⟩ = _ := ((bcell b3).1 _ _ (by omega)).trans HR.out.2.1
         have m2 : (w1.alloc (.cells #[] 57)).cell? ⟨W.heap.size + 1, 2, none⟩ = _ := ((bcell b3).1 _ _ (by omega)).trans HR.out.2.2
         have n0 : (w1.alloc (.cells #[] 57)).frozen? ⟨W.heap.size + 1, 0, none⟩ = _ := ((bcell b3).2 _ _ (by omega)).trans HZ.out.1
         have n1 : (w1.alloc (.cells #[] 57)).frozen? ⟨W.heap.size + 1, 1, none⟩ = _ := ((bcell b3).2 _ _ (by omega)).trans HZ.out.2.1
         have n2 : (w1.alloc (.cells #[] 57)).frozen? ⟨W.heap.size + 1, 2, none⟩ = _ := ((bcell b3).2 _ _ (by omega)).trans HZ.out.2.2

         have c0 := (hk.cell (o := 0) (by omega) (hnb W.heap.size (by omega))).trans k0
         have c1 := (hk.cell (o := 1) (by omega) (hnb W.heap.size (by omega))).trans k1
         have c2 := (hk.cell (o := 2) (by omega) (hnb W.heap.size (by omega))).trans k2
         have q0 := (hk.cell (o := 0) (by omega) (hnb (W.heap.size + 1) (by omega))).trans m0
         have q1 := (hk.cell (o := 1) (by omega) (hnb (W.heap.size + 1) (by omega))).trans m1
         have q2 := (hk.cell (o := 2) (by omega) (hnb (W.heap.size + 1) (by omega))).trans m2
         have y0 := (hk.frozen (o := 0) (by omega) (hnb (W.heap.size + 1) (by omega))).trans n0
         have y1 := (hk.frozen (o := 1) (by omega) (hnb (W.heap.size + 1) (by omega))).trans n1
         have y2 := (hk.frozen (o := 2) (by omega) (hnb (W.heap.size + 1) (by omega))).trans n2
         have hsz := hk.size
         have q3 : W.heap.size < w3.heap.size := by omega
         have q4 : W.heap.size + 1 < w3.heap.size := by omega)
      | (refine stepAppPlaces (by rfl) _ _ (by rfl) (by rfl) HO.out (by rfl) (HJ.out.below (hb0.trans (b2.mono (by omega)))) (by simp; omega) (by omega) ?_
         intro v' w3 ho hk ha
         rw [List.nil_append] at ho
         have HB := Lib.hid ho
         obtain ⟨a', c', rfl, hi'⟩ := ho.form
         clear ho
         have hnb := fun b hb => HNB.out b hb u.heap.size (Nat.le_refl _)
         have hbw := (hb0.trans (b2.mono (by omega))).trans (hk.setOwn HO.out (B := W.heap.size) (by omega) (by omega))
         have OB3 : Hid (OwnBars w3 (W.heap.size + 2) (.slice ab l.length cb) l) := Lib.hid (ownsRow_base (hk.ownsRow OB2.out fun g h1 h2 => by have := (OB2.out.lt g h1); simp [Value.ownBlock] at h2; omega) (by simp only [World.size_drew, World.size_alloc]; omega))
         have c0 := (hk.cell (o := 0) (by omega) (hnb W.heap.size (by omega))).trans k0
         have c1 := (hk.cell (o := 1) (by omega) (hnb W.heap.size (by omega))).trans k1
         have c2 := (hk.cell (o := 2) (by omega) (hnb W.heap.size (by omega))).trans k2
         have q0 := (hk.cell (o := 0) (by omega) (hnb (W.heap.size + 1) (by omega))).trans m0
         have q1 := (hk.cell (o := 1) (by omega) (hnb (W.heap.size + 1) (by omega))).trans m1
         have q2 := (hk.cell (o := 2) (by omega) (hnb (W.heap.size + 1) (by omega))).trans m2
         have y0 := (hk.frozen (o := 0) (by omega) (hnb (W.heap.size + 1) (by omega))).trans n0
         have y1 := (hk.frozen (o := 1) (by omega) (hnb (W.heap.size + 1) (by omega))).trans n1
         have y2 := (hk.frozen (o := 2) (by omega) (hnb (W.heap.size + 1) (by omega))).trans n2
         have hsz := hk.size
         have q3 : W.heap.size < w3.heap.size := by omega
         have q4 : W.heap.size + 1 < w3.heap.size := by omega)
      | fail)
  all_goals
    go_wp2_with fail
    refine bodyPost_ret (v := .agg #[.int .i64 p, .slice ab l.length cb, .slice a' q.length c']) (by simp [results, Try.results75, go_sem, q4, q0, q1, q2]) rfl ⟨_, rfl, ⟨.slice ab l.length cb, .slice a' q.length c', ⟨ab, cb, a', c', rfl, rfl, rfl⟩, ?_, ?_⟩, ?_⟩
    · exact (((OB3.out.set (by simp) _).set (by simp) _).set (by simp) _).low (by omega)
    · exact (((HB.out.set (by simp; omega) _).set (by simp; omega) _).set (by simp; omega) _).low (by omega)
    · exact ((hbw.setCell (by simp) _).setCell (by simp) _).setCell (by simp) _
end Go.Proofs.Ytkjoeogoebpkjaa