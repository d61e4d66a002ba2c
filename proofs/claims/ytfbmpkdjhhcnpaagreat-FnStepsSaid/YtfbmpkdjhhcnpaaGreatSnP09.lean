/- Drawing graphs: l2Simple of the reference. No condition but sizes. -/
import Derived.Test.YtfbmpkdjhhcnpaaGreatSnP04
import Derived.Test.YtfbmpkdjhhcnpaaGreatSnP08
import Derived.Test.YtfbmpkdjhhcnpaaGreatSnP01
import Derived.Test.YtfbmpkdjhhcnpaaGreatSnP06
namespace Go.Proofs.YtfbmpkdjhhcnpaaGreat
open Go.RowKit
set_option maxRecDepth 100000
set_option linter.unusedVariables false
set_option linter.unusedSimpArgs false
def BIn (p : Int) (m : Nat) (bs : List BarT) : Prop := bs.length ≤ m ∧ ∀ x ∈ bs, 0 ≤ x.1 ∧ x.1 < x.2 ∧ x.2 < p
def RetDg (W0 w : World) (g : Nat) (ca : Option Addr) (n cap : Nat) (l : List Int) (P : Int → List BarT → Prop) (e : Ending) (w' : World) : Prop :=
 ∃ p a c bs, e = .returned (.agg #[.int .i64 p, .slice a bs.length c]) ∧ OwnBars w' w.heap.size (.slice a bs.length c) bs ∧ P p bs ∧ Drw W0 w' g ca n cap l ∧ Kept (fun b => b = g) w w'
structure GdS (W0 w0 w : World) (g : Nat) (ca : Option Addr) (n cap : Nat) (l : List Int) (p : Int) (vb : Value) (out : List BarT) : Prop where
 d : Drw W0 w g ca n cap l
 k : Kept (fun b => b = g) w0 w
 rz : Zer2 w w0.heap.size
 og : OutG (w0.heap.size + 1) w (w0.heap.size + 1 + 1) p vb out
 sz : w0.heap.size + 3 ≤ w.heap.size
 gl : g < w0.heap.size
theorem OwnBars.on {w w' : World} {base g : Nat} {v : Value} {xs : List BarT} (h : OwnBars w base v xs) (k : Kept (fun b => b = g) w w') (hg : g < base) : OwnBars w' base v xs :=
 k.ownsRow h fun b h1 h2 => by have := (h.lt b h1).1; omega
theorem GdS.draw {W0 w0 w w' : World} {g : Nat} {ca : Option Addr} {n cap : Nat} {l : List Int} {p : Int} {vb : Value} {out : List BarT} (h : GdS W0 w0 w g ca n cap l p vb out) (hd : Drw W0 w' g ca n cap l) (hk : Kept (fun b => b = g) w w') : GdS W0 w0 w' g ca n cap l p vb out := by
 have hg := h.gl
 exact ⟨hd, h.k.trans hk, h.rz.kept hk (by omega), ⟨(hk.cell h.og.hi (by omega)).trans h.og.c0, (hk.cell h.og.hi (by omega)).trans h.og.c1, (hk.frozen h.og.hi (by omega)).trans h.og.f1, h.og.ob.on hk (by omega), h.og.ne, h.og.lo, Nat.lt_of_lt_of_le h.og.hi hk.size⟩, Nat.le_trans h.sz hk.size, hg⟩
theorem GdS.app {W0 w0 w w' : World} {g : Nat} {ca : Option Addr} {n cap : Nat} {l : List Int} {p : Int} {vb v' : Value} {out out' : List BarT} (h : GdS W0 w0 w g ca n cap l p vb out) (ho : OwnBars w' (w0.heap.size + 1) v' out') (hk : Kept (fun k => some k = vb.ownBlock) w w') (ha : v'.ownBlock = vb.ownBlock ∨ ∀ b, v'.ownBlock = some b → w.heap.size ≤ b) :
  GdS W0 w0 (w'.setCell ⟨w0.heap.size + 1 + 1, 1, none⟩ v') g ca n cap l p v' out' := by
 have hg := h.gl
 have hs := h.sz
 have hlo := h.d.low
 have nlow : ∀ b, b < w0.heap.size + 1 → ¬ some b = vb.ownBlock := fun b hb e => by have := (h.og.ob.lt b e.symm).1; omega
 have ks : Kept (fun k => k = w0.heap.size + 1 + 1) w' (w'.setCell ⟨w0.heap.size + 1 + 1, 1, none⟩ v') := setKept
 exact ⟨(h.d.kept hk (nlow _ (by omega)) fun b hb => nlow _ (by omega)).kept ks (by omega) (fun b hb => by omega), (h.k.on hk fun i hi e => absurd e (nlow i (by omega))).on ks fun i hi e => by omega, (h.rz.kept hk (nlow _ (by omega))).kept ks (by omega), h.og.app ho hk ha, Nat.le_trans (Nat.le_trans h.sz hk.size) ks.size, hg⟩
theorem GdS.start {W0 w : World} {g : Nat} {ca : Option Addr} {n cap : Nat} {l : List Int} (h : Drw W0 w g ca n cap l) (p : Int) :
  GdS W0 w (((w.alloc (.cells #[.int .i64 0, .slice none 0 0] 26)).alloc (.cells #[] 70)).alloc (.cells #[.int .i64 p, .slice (some ⟨w.heap.size + 1, 0, none⟩) 0 0] 26)) g ca n cap l p (.slice (some ⟨w.heap.size + 1, 0, none⟩) 0 0) [] := by
 have b1 := belAl w (.cells #[.int .i64 0, .slice none 0 0] 26)
 have b2 := belAl (w.alloc (.cells #[.int .i64 0, .slice none 0 0] 26)) (.cells #[] 70)
 have b3 := belAl ((w.alloc (.cells #[.int .i64 0, .slice none 0 0] 26)).alloc (.cells #[] 70)) (.cells #[.int .i64 p, .slice (some ⟨w.heap.size + 1, 0, none⟩) 0 0] 26)
 have hr := Zer2.at w 26
 have hob := OwnBars.made (w.alloc (.cells #[.int .i64 0, .slice none 0 0] 26)) (w.heap.size + 1) (by simp)
 have e2 : (w.alloc (.cells #[.int .i64 0, .slice none 0 0] 26)).heap.size = w.heap.size + 1 := by simp
 have e3 : ((w.alloc (.cells #[.int .i64 0, .slice none 0 0] 26)).alloc (.cells #[] 70)).heap.size = w.heap.size + 1 + 1 := by simp
 rw [e2] at hob
 have n0 := World.cell?_alloc_new ((w.alloc (.cells #[.int .i64 0, .slice none 0 0] 26)).alloc (.cells #[] 70)) #[.int .i64 p, .slice (some ⟨w.heap.size + 1, 0, none⟩) 0 0] 26 0
 have n1 := World.cell?_alloc_new ((w.alloc (.cells #[.int .i64 0, .slice none 0 0] 26)).alloc (.cells #[] 70)) #[.int .i64 p, .slice (some ⟨w.heap.size + 1, 0, none⟩) 0 0] 26 1
 have n2 := World.frozen?_alloc_new ((w.alloc (.cells #[.int .i64 0, .slice none 0 0] 26)).alloc (.cells #[] 70)) #[.int .i64 p, .slice (some ⟨w.heap.size + 1, 0, none⟩) 0 0] 26 1
 rw [e3] at n0 n1 n2
 have b23 := b2.step b3
 have b123 := b1.step b23
 exact ⟨h.below b123, Kept.of_below b123, hr.below b23, ⟨by simpa using n0, by simpa using n1, by simpa using n2, hob.below b3, fun e => by have : w.heap.size + 1 = w.heap.size + 1 + 1 := Option.some.inj e; omega, by omega, by simp⟩, by simp, h.hi⟩
set_option maxHeartbeats 8000000 in
theorem l2Simple_at (W0 w : World) (g : Nat) (ca : Option Addr) (n cap : Nat) (l : List Int) (hB : BytesAt W0 ca n l) (hn : n ≤ 1099511627776) (h : Drw W0 w g ca n cap l) (P : Nat) (hP : P ≤ 1000) (odd : Int) :
  Calls Tryz.prog 140 #[.pointer (some ⟨g, 0, none⟩), .int .i64 P, .int .i64 odd] w (RetDg W0 w g ca n cap l fun p bs => p = (P : Int) ∧ BIn P 24 bs) := by
 have HD : Hid (∀ (m : Int) w9, 1 ≤ m ∧ m ≤ 256 → Drw W0 w9 g ca n cap l → Calls Tryz.prog 88 #[.pointer (some ⟨g, 0, none⟩), .int .i64 m] w9 (RetDi W0 w9 g ca n cap l 0 (m - 1))) := Lib.hid fun m w9 hm h9 => l1Below_at W0 w9 g ca n cap l hB hn h9 m hm
 have GS := Lib.hid (GdS.start h (P : Int))
 clear hB h
 go_enter Tryz.func140, Tryz.ntmps140
 go_wp2_with fail
 generalize (((w.alloc (.cells #[.int .i64 0, .slice none 0 0] 26)).alloc (.cells #[] 70)).alloc (.cells #[.int .i64 (P : Int), .slice (some ⟨w.heap.size + 1, 0, none⟩) 0 0] 26)) = u at *
 go_loopw [8] (fun i w9 => ∃ (k : Nat) (vb : Value) (bs : List BarT), k ≤ P ∧ i = .int .i64 k ∧ GdS W0 w w9 g ca n cap l P vb bs ∧ BIn P 24 bs) (fun i _ => P - (intOf i).toNat)
 case atStart => exact ⟨0, _, [], Nat.zero_le _, rfl, GS.out, by simp, by simp⟩
 case round =>
  clear GS
  obtain ⟨k, vb, bs, hk, rfl, hgs, hbs⟩ := hrel
  have GS := Lib.hid hgs
  have HBS := Lib.hid hbs
  clear hgs hbs
  by_cases hlt : k < P
  ·have hki : (k : Int) < (P : Int) := by omega
   have hwk := IntWalk.i64_in ((k : Int) + 1) (by omega)
   go_wp2_with fail
   obtain ⟨wA, hwA⟩ : ∃ w9, w9 = wr := ⟨_, rfl⟩
   subst hwA
   go_loopw [9] (fun i w9 => ∃ (j : Nat) (vb : Value) (bs : List BarT), k + 1 ≤ j ∧ j ≤ P ∧ i = .int .i64 j ∧ GdS W0 w w9 g ca n cap l P vb bs ∧ BIn P 24 bs) (fun i _ => P - (intOf i).toNat)
   case atStart => exact ⟨k + 1, vb, bs, by omega, by omega, by go_num, GS.out, HBS.out⟩
   case round =>
    clear GS HBS hwk
    obtain ⟨j, vb, bs, hkj, hj, rfl, hgs, hbs⟩ := hrel
    have GS := Lib.hid hgs
    have HBS := Lib.hid hbs
    clear hgs hbs
    by_cases hjl : j < P
    ·have hji : (j : Int) < (P : Int) := by omega
     go_wp2_with fail
     refine (HD.out 10 wr (by decide) GS.out.d).mono ?_
     rintro e w5 ⟨x, hx, rfl, d1, k1⟩
     replace GS := Lib.hid (GS.out.draw d1 k1)
     clear d1 k1 hx
     obtain ⟨ab, cb, rfl, -⟩ := GS.out.og.ob.form
     have c1 := GS.out.og.c1
     have f1 := GS.out.og.f1
     have z1 := GS.out.og.hi
     have hbl := HBS.out.1
     by_cases hx : x < odd
     ·by_cases h24 : bs.length < 24
      ·have h24i : (bs.length : Int) < 24 := by omega
       have sz5 := GS.out.sz
       have ba := belAl w5 (.cells #[.int .i64 (k : Int), .int .i64 (j : Int)] 70)
       go_wp2_with (at_builtin; go_loud (refine appBar1At rfl (.tmp 36) (.tmp 40) rfl rfl GS.out.og.ob (k : Int) (j : Int) rfl (by omega) (by omega) ?_); intro v6 w6 h6 k6 a6; obtain ⟨aq, cq, rfl, -⟩ := h6.form; go_loud (have G6 := Lib.hid (GS.out.app h6 k6 a6); have c6 : w6.cell? ⟨w.heap.size + 1 + 1, 1, none⟩ = some (.slice ab bs.length cb) := (k6.cell z1 (fun e => GS.out.og.ne e.symm)).trans c1; have f6 : w6.frozen? ⟨w.heap.size + 1 + 1, 1, none⟩ = false := (k6.frozen z1 (fun e => GS.out.og.ne e.symm)).trans f1))
       have G7 := G6.out
       rw [show (bs ++ [((k : Int), (j : Int))]).length = bs.length + 1 by simp] at G7
       go_roundw
       case rel => exact ⟨j + 1, _, bs ++ [((k : Int), (j : Int))], by omega, by omega, by go_num, G7, by simp; omega, fun x hx => by
        rcases List.mem_append.1 hx with h1 | h1
        ·exact HBS.out.2 x h1
        ·simp at h1; rw [h1]; dsimp only; omega⟩
       case measure => simp [intOf]; omega
      ·have h24i : ¬ (bs.length : Int) < 24 := by omega
       go_wp2_with fail
       go_roundw
       case rel => exact ⟨j + 1, _, bs, by omega, by omega, by go_num, GS.out, HBS.out⟩
       case measure => simp [intOf]; omega
     ·go_wp2_with fail
      go_roundw
      case rel => exact ⟨j + 1, _, bs, by omega, by omega, by go_num, GS.out, HBS.out⟩
      case measure => simp [intOf]; omega
    ·have hji : ¬ (j : Int) < (P : Int) := by omega
     go_wp2_with fail
     go_roundw
     case rel => exact ⟨k + 1, vb, bs, by omega, by go_num, GS.out, HBS.out⟩
     case measure => simp [intOf]; omega
  ·have hki : ¬ (k : Int) < (P : Int) := by omega
   obtain ⟨ab, cb, rfl, -⟩ := GS.out.og.ob.form
   have hsz := GS.out.sz
   obtain ⟨g0, g1, g2, g3, g4, g5, g6⟩ := GS.out.og
   obtain ⟨⟨z1, z2, z3, c0, c1⟩, ⟨f0, f1⟩, gz⟩ := GS.out.rz
   have k2 : Kept (fun b => b = w.heap.size) wr ((wr.setCell ⟨w.heap.size, 0, none⟩ (.int .i64 (P : Int))).setCell ⟨w.heap.size, 1, none⟩ (.slice ab bs.length cb)) := (keptSet' (S := fun b => b = w.heap.size) rfl).trans (keptSet' (S := fun b => b = w.heap.size) rfl)
   have hgl := GS.out.gl
   have HF : Hid (OwnBars ((wr.setCell ⟨w.heap.size, 0, none⟩ (.int .i64 (P : Int))).setCell ⟨w.heap.size, 1, none⟩ (.slice ab bs.length cb)) w.heap.size (.slice ab bs.length cb) bs ∧ Drw W0 ((wr.setCell ⟨w.heap.size, 0, none⟩ (.int .i64 (P : Int))).setCell ⟨w.heap.size, 1, none⟩ (.slice ab bs.length cb)) g ca n cap l ∧ Kept (fun b => b = g) w ((wr.setCell ⟨w.heap.size, 0, none⟩ (.int .i64 (P : Int))).setCell ⟨w.heap.size, 1, none⟩ (.slice ab bs.length cb))) := Lib.hid ⟨((g3.set (by show w.heap.size < _; omega) _).set (by show w.heap.size < _; omega) _).low (by omega), GS.out.d.kept k2 (by omega) (fun b hb => by have := GS.out.d.low; omega), GS.out.k.on k2 fun i h1 h2 => by omega⟩
   clear k2
   go_wp2_with fail
   refine bodyPost_ret (v := .agg #[.int .i64 (P : Int), .slice ab bs.length cb]) (by simp [results, Tryz.results140, go_sem, gz, c0, c1]) rfl ?_
   exact ⟨(P : Int), ab, cb, bs, rfl, HF.out.1, ⟨rfl, HBS.out⟩, HF.out.2.1, HF.out.2.2⟩


theorem isGraphB_bd {p : Int} {l : List BarT} (h : isGraphB (p, l) = true) : (1 ≤ p ∧ p ≤ 8) ∧ l.length ≤ 24 := by
 simp [isGraphB, inB] at h; omega
theorem isGraphB_bar {p : Int} {l : List BarT} (h : isGraphB (p, l) = true) {i : Nat} {x : BarT} (hx : l[i]? = some x) : 0 ≤ x.1 ∧ x.1 < x.2 ∧ x.2 < p := by
 simp only [isGraphB, barsOk, Bool.and_eq_true, List.all_eq_true] at h
 have h1 := h.2.2 i (List.mem_range.2 (lt_of_getElem? hx))
 simp only [barAt, hx, Bool.and_eq_true, decide_eq_true_eq] at h1
 exact ⟨h1.1, h1.2.1, h1.2.2.1⟩
end Go.Proofs.YtfbmpkdjhhcnpaaGreat

