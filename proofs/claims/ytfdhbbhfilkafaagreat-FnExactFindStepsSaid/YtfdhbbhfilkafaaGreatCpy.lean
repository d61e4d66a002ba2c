/- Copies of graphs and frameworks. No condition but sizes. -/
import Derived.Test.YtfdhbbhfilkafaaGreatApp3
import Derived.Test.YtfdhbbhfilkafaaGreatBox
import Derived.Test.YtfdhbbhfilkafaaGreatFwH
import Derived.Deep.RegionHeld3
namespace Go.Proofs.YtfdhbbhfilkafaaGreat
open Go.RowKit
set_option maxRecDepth 100000
set_option linter.unusedVariables false
set_option linter.unusedSimpArgs false

set_option maxHeartbeats 4000000 in
theorem implCpG_at (W : World) (p : Int) (a : Option Addr) (cap n : Nat) (l : List BarT) (h : BarsAt W a n l) (hn : n ≤ 1048576) :
    Calls Tryz.prog 98 #[.agg #[.int .i64 p, .slice a n cap]] W (RetGraph W (p, l)) := by
  have HI := Lib.hid h
  clear h
  have hb0 : Below W.heap.size W (((W.alloc (.cells #[.int .i64 p, .slice a n cap] 26)).alloc (.cells #[.int .i64 0, .slice none 0 0] 26))) := ((Below.refl _ W).alloc (Nat.le_refl _) _).alloc (by simp) _
  have f0 : (((W.alloc (.cells #[.int .i64 p, .slice a n cap] 26)).alloc (.cells #[.int .i64 0, .slice none 0 0] 26))).cell? ⟨W.heap.size, 0, none⟩ = some (.int .i64 p) := by simp [World.cell?_alloc_new]
  have f1 : (((W.alloc (.cells #[.int .i64 p, .slice a n cap] 26)).alloc (.cells #[.int .i64 0, .slice none 0 0] 26))).cell? ⟨W.heap.size, 1, none⟩ = some (.slice a n cap) := by simp [World.cell?_alloc_new]
  have r0 : (((W.alloc (.cells #[.int .i64 p, .slice a n cap] 26)).alloc (.cells #[.int .i64 0, .slice none 0 0] 26))).cell? ⟨W.heap.size + 1, 0, none⟩ = some (.int .i64 0) := by simp [World.cell?_alloc_new]
  have r1 : (((W.alloc (.cells #[.int .i64 p, .slice a n cap] 26)).alloc (.cells #[.int .i64 0, .slice none 0 0] 26))).cell? ⟨W.heap.size + 1, 1, none⟩ = some (.slice none 0 0) := by simp [World.cell?_alloc_new]
  have z0 : (((W.alloc (.cells #[.int .i64 p, .slice a n cap] 26)).alloc (.cells #[.int .i64 0, .slice none 0 0] 26))).frozen? ⟨W.heap.size + 1, 0, none⟩ = false := by simp [World.frozen?_alloc_new]
  have z1 : (((W.alloc (.cells #[.int .i64 p, .slice a n cap] 26)).alloc (.cells #[.int .i64 0, .slice none 0 0] 26))).frozen? ⟨W.heap.size + 1, 1, none⟩ = false := by simp [World.frozen?_alloc_new]
  have hu : (((W.alloc (.cells #[.int .i64 p, .slice a n cap] 26)).alloc (.cells #[.int .i64 0, .slice none 0 0] 26))).heap.size = W.heap.size + 2 := by simp
  have HF := Lib.hid (And.intro f0 f1)
  have HR := Lib.hid (And.intro r0 r1)
  have HZ := Lib.hid (And.intro z0 z1)
  clear f0 f1 r0 r1 z0 z1
  go_enter Tryz.func98, Tryz.ntmps98
  go_wp2_with fail
  generalize ((W.alloc (.cells #[.int .i64 p, .slice a n cap] 26)).alloc (.cells #[.int .i64 0, .slice none 0 0] 26)) = u at *
  have hu1 : u.heap.size ≤ W.heap.size + 2 := by omega
  have hu2 : W.heap.size + 2 ≤ u.heap.size := by omega
  clear hu
  have d0 : u.drew.cell? ⟨W.heap.size, 0, none⟩ = _ := HF.out.1
  have d1 : u.drew.cell? ⟨W.heap.size, 1, none⟩ = _ := HF.out.2
  have bu : Below u.heap.size u (u.alloc (.cells #[] 78)).drew := ((Below.refl _ u).alloc (Nat.le_refl _) _).drew
  have k0 : (u.alloc (.cells #[] 78)).drew.cell? ⟨W.heap.size, 0, none⟩ = some (.int .i64 p) := ((bcell bu).1 _ _ (by omega)).trans HF.out.1
  have k1 : (u.alloc (.cells #[] 78)).drew.cell? ⟨W.heap.size, 1, none⟩ = some (.slice a n cap) := ((bcell bu).1 _ _ (by omega)).trans HF.out.2
  have hz2 : u.heap.size + 1 ≤ (u.alloc (.cells #[] 78)).drew.heap.size := by show _ ≤ (u.alloc (.cells #[] 78)).heap.size; simp
  have HO : OwnBars (u.alloc (.cells #[] 78)).drew u.heap.size (.slice (some ⟨u.heap.size, 0, none⟩) 0 0) [] := OwnBars.made u _ (Nat.le_refl _)
  have HS : BarsAt (u.alloc (.cells #[] 78)).drew a n l := HI.out.below ((hb0.alloc (by omega) _).drew)
  have e0 : W.heap.size < u.drew.heap.size := by show _ < u.heap.size; omega
  have e1 : W.heap.size + 1 < u.drew.heap.size := by show _ < u.heap.size; omega
  have HHO := Lib.hid HO
  have HHS := Lib.hid HS
  clear HO HS
  go_region_held3 (fun w' => w'.cell? ⟨W.heap.size, 0, none⟩ = some (.int .i64 p) ∧ w'.cell? ⟨W.heap.size, 1, none⟩ = some (.slice a n cap))
    (first | (with_reducible exact ⟨d0, d1⟩) | (with_reducible exact ⟨k0, k1⟩) | (with_reducible exact ⟨c0, c1⟩) | (go_keep))
    ((
         refine stepAppBars (by rfl) _ _ (by rfl) (by rfl) HHO.out (by rfl) HHS.out (by simp; omega) (by simp [World.drew]) ?_
         intro v' w1 ho hk ha
         rw [List.nil_append] at ho
         have HB := Lib.hid ho
         obtain ⟨a', c', rfl, hi'⟩ := ho.form
         clear ho
         have hnb : ∀ b, b < u.heap.size → ¬ (some b = Value.ownBlock (.slice (some ⟨u.heap.size, 0, none⟩) 0 0)) := fun b hb hh => by simp [Value.ownBlock] at hh; omega
         have c0 := (hk.cell (o := 0) (by omega) (hnb W.heap.size (by omega))).trans k0
         have c1 := (hk.cell (o := 1) (by omega) (hnb W.heap.size (by omega))).trans k1
         have q0 := ((hk.cell (o := 0) (by omega) (hnb (W.heap.size + 1) (by omega))).trans ((bcell bu).1 _ _ (by omega))).trans HR.out.1
         have q1 := ((hk.cell (o := 1) (by omega) (hnb (W.heap.size + 1) (by omega))).trans ((bcell bu).1 _ _ (by omega))).trans HR.out.2
         have y0 := ((hk.frozen (o := 0) (by omega) (hnb (W.heap.size + 1) (by omega))).trans ((bcell bu).2 _ _ (by omega))).trans HZ.out.1
         have y1 := ((hk.frozen (o := 1) (by omega) (hnb (W.heap.size + 1) (by omega))).trans ((bcell bu).2 _ _ (by omega))).trans HZ.out.2
         have hbw := (hb0.trans (bu.mono (by omega))).trans (hk.setOwn HHO.out (B := W.heap.size) (by omega) (by omega))
         have hsz := hk.size
         have q3 : W.heap.size < w1.heap.size := by omega
         have q4 : W.heap.size + 1 < w1.heap.size := by omega))
  go_wp2_with fail
  refine bodyPost_ret (v := .agg #[.int .i64 p, .slice a' l.length c']) (by simp [results, Tryz.results98, go_sem, q4, q0, q1]) rfl ⟨_, rfl, ⟨.slice a' l.length c', ⟨a', c', rfl, rfl⟩, ?_⟩, ?_⟩
  · exact ((HB.out.set (by simp; omega) _).set (by simp; omega) _).low (by omega)
  · exact (hbw.setCell (by simp) _).setCell (by simp) _

set_option maxHeartbeats 4000000 in
theorem specCpG_at (W : World) (p : Int) (a : Option Addr) (cap n : Nat) (l : List BarT) (h : BarsAt W a n l) (hn : n ≤ 1048576) :
    Calls Tryz.prog 86 #[.agg #[.int .i64 p, .slice a n cap]] W (RetGraph W (p, l)) := by
  have HI := Lib.hid h
  clear h
  have hb0 : Below W.heap.size W (((W.alloc (.cells #[.int .i64 p, .slice a n cap] 26)).alloc (.cells #[.int .i64 0, .slice none 0 0] 26))) := ((Below.refl _ W).alloc (Nat.le_refl _) _).alloc (by simp) _
  have f0 : (((W.alloc (.cells #[.int .i64 p, .slice a n cap] 26)).alloc (.cells #[.int .i64 0, .slice none 0 0] 26))).cell? ⟨W.heap.size, 0, none⟩ = some (.int .i64 p) := by simp [World.cell?_alloc_new]
  have f1 : (((W.alloc (.cells #[.int .i64 p, .slice a n cap] 26)).alloc (.cells #[.int .i64 0, .slice none 0 0] 26))).cell? ⟨W.heap.size, 1, none⟩ = some (.slice a n cap) := by simp [World.cell?_alloc_new]
  have r0 : (((W.alloc (.cells #[.int .i64 p, .slice a n cap] 26)).alloc (.cells #[.int .i64 0, .slice none 0 0] 26))).cell? ⟨W.heap.size + 1, 0, none⟩ = some (.int .i64 0) := by simp [World.cell?_alloc_new]
  have r1 : (((W.alloc (.cells #[.int .i64 p, .slice a n cap] 26)).alloc (.cells #[.int .i64 0, .slice none 0 0] 26))).cell? ⟨W.heap.size + 1, 1, none⟩ = some (.slice none 0 0) := by simp [World.cell?_alloc_new]
  have z0 : (((W.alloc (.cells #[.int .i64 p, .slice a n cap] 26)).alloc (.cells #[.int .i64 0, .slice none 0 0] 26))).frozen? ⟨W.heap.size + 1, 0, none⟩ = false := by simp [World.frozen?_alloc_new]
  have z1 : (((W.alloc (.cells #[.int .i64 p, .slice a n cap] 26)).alloc (.cells #[.int .i64 0, .slice none 0 0] 26))).frozen? ⟨W.heap.size + 1, 1, none⟩ = false := by simp [World.frozen?_alloc_new]
  have hu : (((W.alloc (.cells #[.int .i64 p, .slice a n cap] 26)).alloc (.cells #[.int .i64 0, .slice none 0 0] 26))).heap.size = W.heap.size + 2 := by simp
  have HF := Lib.hid (And.intro f0 f1)
  have HR := Lib.hid (And.intro r0 r1)
  have HZ := Lib.hid (And.intro z0 z1)
  clear f0 f1 r0 r1 z0 z1
  go_enter Tryz.func86, Tryz.ntmps86
  go_wp2_with fail
  generalize ((W.alloc (.cells #[.int .i64 p, .slice a n cap] 26)).alloc (.cells #[.int .i64 0, .slice none 0 0] 26)) = u at *
  have hu1 : u.heap.size ≤ W.heap.size + 2 := by omega
  have hu2 : W.heap.size + 2 ≤ u.heap.size := by omega
  clear hu
  have d0 : u.drew.cell? ⟨W.heap.size, 0, none⟩ = _ := HF.out.1
  have d1 : u.drew.cell? ⟨W.heap.size, 1, none⟩ = _ := HF.out.2
  have bu : Below u.heap.size u (u.alloc (.cells #[] 78)).drew := ((Below.refl _ u).alloc (Nat.le_refl _) _).drew
  have k0 : (u.alloc (.cells #[] 78)).drew.cell? ⟨W.heap.size, 0, none⟩ = some (.int .i64 p) := ((bcell bu).1 _ _ (by omega)).trans HF.out.1
  have k1 : (u.alloc (.cells #[] 78)).drew.cell? ⟨W.heap.size, 1, none⟩ = some (.slice a n cap) := ((bcell bu).1 _ _ (by omega)).trans HF.out.2
  have hz2 : u.heap.size + 1 ≤ (u.alloc (.cells #[] 78)).drew.heap.size := by show _ ≤ (u.alloc (.cells #[] 78)).heap.size; simp
  have HO : OwnBars (u.alloc (.cells #[] 78)).drew u.heap.size (.slice (some ⟨u.heap.size, 0, none⟩) 0 0) [] := OwnBars.made u _ (Nat.le_refl _)
  have HS : BarsAt (u.alloc (.cells #[] 78)).drew a n l := HI.out.below ((hb0.alloc (by omega) _).drew)
  have e0 : W.heap.size < u.drew.heap.size := by show _ < u.heap.size; omega
  have e1 : W.heap.size + 1 < u.drew.heap.size := by show _ < u.heap.size; omega
  have HHO := Lib.hid HO
  have HHS := Lib.hid HS
  clear HO HS
  go_region_held3 (fun w' => w'.cell? ⟨W.heap.size, 0, none⟩ = some (.int .i64 p) ∧ w'.cell? ⟨W.heap.size, 1, none⟩ = some (.slice a n cap))
    (first | (with_reducible exact ⟨d0, d1⟩) | (with_reducible exact ⟨k0, k1⟩) | (with_reducible exact ⟨c0, c1⟩) | (go_keep))
    ((
         refine stepAppBars (by rfl) _ _ (by rfl) (by rfl) HHO.out (by rfl) HHS.out (by simp; omega) (by simp [World.drew]) ?_
         intro v' w1 ho hk ha
         rw [List.nil_append] at ho
         have HB := Lib.hid ho
         obtain ⟨a', c', rfl, hi'⟩ := ho.form
         clear ho
         have hnb : ∀ b, b < u.heap.size → ¬ (some b = Value.ownBlock (.slice (some ⟨u.heap.size, 0, none⟩) 0 0)) := fun b hb hh => by simp [Value.ownBlock] at hh; omega
         have c0 := (hk.cell (o := 0) (by omega) (hnb W.heap.size (by omega))).trans k0
         have c1 := (hk.cell (o := 1) (by omega) (hnb W.heap.size (by omega))).trans k1
         have q0 := ((hk.cell (o := 0) (by omega) (hnb (W.heap.size + 1) (by omega))).trans ((bcell bu).1 _ _ (by omega))).trans HR.out.1
         have q1 := ((hk.cell (o := 1) (by omega) (hnb (W.heap.size + 1) (by omega))).trans ((bcell bu).1 _ _ (by omega))).trans HR.out.2
         have y0 := ((hk.frozen (o := 0) (by omega) (hnb (W.heap.size + 1) (by omega))).trans ((bcell bu).2 _ _ (by omega))).trans HZ.out.1
         have y1 := ((hk.frozen (o := 1) (by omega) (hnb (W.heap.size + 1) (by omega))).trans ((bcell bu).2 _ _ (by omega))).trans HZ.out.2
         have hbw := (hb0.trans (bu.mono (by omega))).trans (hk.setOwn HHO.out (B := W.heap.size) (by omega) (by omega))
         have hsz := hk.size
         have q3 : W.heap.size < w1.heap.size := by omega
         have q4 : W.heap.size + 1 < w1.heap.size := by omega))
  go_wp2_with fail
  refine bodyPost_ret (v := .agg #[.int .i64 p, .slice a' l.length c']) (by simp [results, Tryz.results86, go_sem, q4, q0, q1]) rfl ⟨_, rfl, ⟨.slice a' l.length c', ⟨a', c', rfl, rfl⟩, ?_⟩, ?_⟩
  · exact ((HB.out.set (by simp; omega) _).set (by simp; omega) _).low (by omega)
  · exact (hbw.setCell (by simp) _).setCell (by simp) _
end Go.Proofs.YtfdhbbhfilkafaaGreat