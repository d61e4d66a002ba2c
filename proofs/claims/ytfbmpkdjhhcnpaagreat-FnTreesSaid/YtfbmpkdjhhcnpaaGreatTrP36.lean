/- What FnTrees draws: DrawArePackedTrees of the reference. No condition but sizes. -/
import Derived.Test.YtfbmpkdjhhcnpaaGreatTrP35
import Derived.Deep.DeepCutAuto
import Derived.Deep.QuietTactic
import Derived.BigQuiet
import Derived.Test.YtfbmpkdjhhcnpaaGreatTrP22
import Derived.Test.YtfbmpkdjhhcnpaaGreatTrP21
import Derived.Test.YtfbmpkdjhhcnpaaGreatTrP28
namespace Go.Proofs.YtfbmpkdjhhcnpaaGreat
open Go.RowKit
set_option maxRecDepth 100000
set_option linter.unusedVariables false
set_option linter.unusedSimpArgs false
set_option maxHeartbeats 8000000 in
theorem drawArp_at (W : World) (ca : Option Addr) (n cap : Nat) (l : List Int) (hB : BytesAt W ca n l) (hn : n ≤ 1048576) : Calls Tryz.prog 19 #[.slice ca n cap] W (RetAp W) := by
  have ba := belAl W (.cells #[.int .i64 0, .slice none 0 0] 26)
  have Z := Lib.hid (Zer2.at W 26)
  have hBu := BytesAt.below hB ba
  have hzu : (W.alloc (.cells #[.int .i64 0, .slice none 0 0] 26)).heap.size = W.heap.size + 1 := by simp
  have BA := Lib.hid ba
  clear hB ba
  go_enter Tryz.func19, Tryz.ntmps19
  go_wp2_with fail
  generalize (W.alloc (.cells #[.int .i64 0, .slice none 0 0] 26)) = u at *
  have HN := Lib.hid (l1New_at u ca n cap l hBu hn)
  have HON : Hid (∀ (m : Int) w9 g, 1 ≤ m ∧ m ≤ 256 → Drw u w9 g ca n cap l → Calls Tryz.prog 58 #[.pointer (some ⟨g, 0, none⟩), .int .i64 m] w9 (RetDb u w9 g ca n cap l)) := Lib.hid fun m w9 g hm h9 => l1Once_at u w9 g ca n cap l hBu (by omega) h9 m hm
  have HPK : Hid (∀ w9 g, Drw u w9 g ca n cap l → Calls Tryz.prog 45 #[.pointer (some ⟨g, 0, none⟩)] w9 (RetPd u w9 g ca n cap l)) := Lib.hid fun w9 g h9 => l8Packed_at u w9 g ca n cap l hBu (by omega) h9
  have hzu1 : W.heap.size < u.heap.size := by omega
  clear hBu hzu
  refine HN.out.mono ?_
  rintro e w1 ⟨g, rfl, d1⟩
  have D := Lib.hid d1
  have hz1 := d1.bel.size
  have hg0 := d1.low
  have hg1 := d1.hi
  have B := Lib.hid (BA.out.step d1.bel)
  replace Z := Lib.hid (Z.out.below d1.bel)
  clear d1 HN BA
  go_wp2_with fail
  refine (HPK.out w1 g D.out).mono ?_
  rintro e w2 ⟨p, a, c, bs, k, rfl, ob, hsm, d2, k2⟩
  have ba := belAl w2 (.cells #[.int .i64 p, .slice a bs.length c] 26)
  have hbx : BoxGr (w2.alloc (.cells #[.int .i64 p, .slice a bs.length c] 26)) w2.heap.size p a bs.length c := BoxGr.at rfl
  have hz2 := k2.size
  have F := Lib.hid (TdS.mk (d2.below ba) ((B.out.trans (k2.below B.out.size fun k h1 h2 => by omega)).step ba) ((Z.out.kept k2 (by omega)).below ba) hbx (OwnBars.below ob ba))
  obtain ⟨gt, hgt0⟩ : ∃ q, q = w2.heap.size := ⟨_, rfl⟩
  have hgW : W.heap.size < g := by omega
  have hgt : g < gt := by omega
  have hglo : g < w1.heap.size := hg1
  rw [← hgt0] at F
  have HPT : Hid (∀ w9, Drw u w9 g ca n cap l → OwnBars w9 w1.heap.size (.slice a bs.length c) bs → Calls Tryz.prog 8 #[.agg #[.int .i64 p, .slice a bs.length c], .int .i64 k] w9 fun e w' => ∃ vo, e = .returned (.tuple #[vo, .bool (packOk (p, bs) k)]) ∧ OwnIntss w' w9.heap.size vo (packL (p, bs) k) ∧ Below w9.heap.size w9 w') := Lib.hid fun w9 _ ob9 => spec_PackTrees w9 _ (p, bs) ⟨a, c, rfl, ownBars_at ob9⟩ k (by show bs.length ≤ 1048576; omega)
  have HSZ := Lib.hid (packL_sz (p, bs) k)
  have HPB : Hid (packOk (p, bs) k = true → 0 < (packL (p, bs) k).length) := Lib.hid fun h => by
    have := packL_pack h
    unfold packB at this
    simp only [Bool.and_eq_true, beq_iff_eq] at this
    omega
  obtain ⟨ok, hok⟩ : ∃ ok, ok = packOk (p, bs) k := ⟨_, rfl⟩
  obtain ⟨L, hL⟩ : ∃ L, L = packL (p, bs) k := ⟨_, rfl⟩
  rw [← hok, ← hL] at HPT
  rw [← hok, ← hL] at HPB
  rw [← hL] at HSZ
  clear ob d2 k2 D B Z ba hbx hok hL
  go_wp2_with fail
  try rw [← hgt0]
  generalize (w2.alloc (.cells #[.int .i64 p, .slice a bs.length c] 26)) = w3 at *
  have hgtW : W.heap.size < gt := by omega
  clear hgt0 hz2
  obtain ⟨zB, cB0, cB1⟩ := F.out.bx
  go_wp2_with fail
  clear zB cB0 cB1
  have hz3 := F.out.dr.bel.size
  have hg3 := F.out.dr.hi
  have hgt3 : gt < w3.heap.size := F.out.bx.1
  have hob3 : ∀ b, (Value.slice a bs.length c).ownBlock = some b → b < w3.heap.size := fun b hb => (F.out.ob.lt b hb).2
  refine (HPT.out w3 F.out.dr F.out.ob).mono ?_
  rintro e w4 ⟨vo, rfl, ho, b4⟩
  obtain ⟨aL, cL, rfl, -⟩ := ho.fr
  replace F := Lib.hid (F.out.below b4)
  have OL := Lib.hid ho
  clear ho b4 HPT HPK
  cases ok
  · obtain ⟨a9, c9, e9, fl⟩ := OL.out.fr
    simp at e9
    obtain ⟨rfl, rfl⟩ := e9
    have FL := Lib.hid (fl.low (lo' := u.heap.size) hz3)
    clear fl
    obtain ⟨zB, cB0, cB1⟩ := F.out.bx
    obtain ⟨⟨z1, z2, z3, c0, c1⟩, ⟨f0, f1⟩, gz⟩ := F.out.z
    have HL := Lib.hid (layG (p := p) F.out.bl F.out.ob (by omega))
    have HV := Lib.hid ((((FL.out.set (i := 0) (x := .int .i64 p) hzu1).set (i := 1) (x := .slice a bs.length c) hzu1)).low (lo' := W.heap.size) (by omega))
    go_wp2_with fail
    refine bodyPost_ret (v := .tuple #[.agg #[.int .i64 p, .slice a bs.length c], .int .i64 k, .slice aL L.length cL]) (by simp [results, Tryz.results19, go_sem, gz, c0, c1]) rfl ?_
    exact ⟨p, a, c, bs, k, aL, cL, L, rfl, HL.out.1, HV.out, ⟨hsm.1, hsm.2, HSZ.out⟩, HL.out.2⟩
  · have hL0 := HPB.out rfl
    go_wp2_with fail
    refine (HON.out 4 w4 g (by decide) F.out.dr).mono ?_
    rintro e w5 ⟨bq, rfl, d1, k1⟩
    replace F := Lib.hid (F.out.draw d1 k1 hgW hgt hglo)
    replace OL := Lib.hid (OL.out.on' k1 hg3)
    clear d1 k1
    cases bq
    · obtain ⟨a9, c9, e9, fl⟩ := OL.out.fr
      simp at e9
      obtain ⟨rfl, rfl⟩ := e9
      have FL := Lib.hid (fl.low (lo' := u.heap.size) hz3)
      clear fl
      obtain ⟨zB, cB0, cB1⟩ := F.out.bx
      obtain ⟨⟨z1, z2, z3, c0, c1⟩, ⟨f0, f1⟩, gz⟩ := F.out.z
      have HL := Lib.hid (layG (p := p) F.out.bl F.out.ob (by omega))
      have HV := Lib.hid ((((FL.out.set (i := 0) (x := .int .i64 p) hzu1).set (i := 1) (x := .slice a bs.length c) hzu1)).low (lo' := W.heap.size) (by omega))
      go_wp2_with fail
      refine bodyPost_ret (v := .tuple #[.agg #[.int .i64 p, .slice a bs.length c], .int .i64 k, .slice aL L.length cL]) (by simp [results, Tryz.results19, go_sem, gz, c0, c1]) rfl ?_
      exact ⟨p, a, c, bs, k, aL, cL, L, rfl, HL.out.1, HV.out, ⟨hsm.1, hsm.2, HSZ.out⟩, HL.out.2⟩
    · obtain ⟨gl, cap2, ar, cr, r, e2, hgl0, hgl, hcell, hrow, hor⟩ := OL.out.row hL0
      simp at e2
      obtain ⟨rfl, rfl⟩ := e2
      have hL0i : (0 : Int) < (L.length : Int) := by omega
      by_cases hr : 0 < r.length
      · have hri : (0 : Int) < (r.length : Int) := by omega
        obtain ⟨b, d2, e2, hd1, hd2, hbk, hbk2⟩ := rowBlkT hor hr
        simp at e2
        obtain ⟨rfl, rfl⟩ := e2
        have hcut := fun w => cutHead (b := b) (n := r.length) (c := cr) hr hd1 hd2 w
        obtain ⟨a8, c8, e8, fr8⟩ := OwnInts.fr hor
        simp at e8
        obtain ⟨rfl, rfl⟩ := e8
        have HT := Lib.hid (cutTail fr8.at' hr hd1)
        clear fr8
        have fz : w5.frozen? ⟨gl, 0, none⟩ = false := by
          obtain ⟨vs, hov, -⟩ := OL.out
          exact World.ownsRow.frozenAt hov 0
        obtain ⟨a9, c9, e9, fl⟩ := OL.out.fr
        simp at e9
        obtain ⟨rfl, rfl⟩ := e9
        have ks : Kept (fun q => q = gl) w5 (w5.setCell ⟨gl, 0, none⟩ (.slice (cutA b cr) (r.length - 1) (cr - 1))) := keptSet' (S := fun q => q = gl) rfl
        have hlt : (r.tail :: L.tail).length = L.length := by rw [List.length_cons, List.length_tail]; omega
        have FL6 := fl.cut hL0 (cr' := cr - 1) HT.out (fun b' off' e => by unfold cutA at e; split at e <;> (have e2 := Option.some.inj e; simp at e2; omega)) ⟨_, _, _, hcell⟩ fz
        rw [List.length_tail] at FL6
        have FL := Lib.hid (FL6.low (lo' := u.heap.size) hz3)
        have HS6 := Lib.hid (szIntss_cut hrow)
        have Z6 := F.out.z.kept ks (by omega)
        have B6 := F.out.bx.kept ks (by omega)
        have HL := Lib.hid (layG (p := p) (F.out.bl.trans (ks.below F.out.bl.size fun k h1 h2 => by omega)) (ks.ownsRow F.out.ob fun b h1 h2 => by have := hob3 b h1; omega) (by omega))
        go_upto_region 6 with (fail)
        generalize (w5.setCell ⟨gl, 0, none⟩ (.slice (cutA b cr) (r.length - 1) (cr - 1))) = w6 at *
        have HV := Lib.hid ((((FL.out.set (i := 0) (x := .int .i64 p) hzu1).set (i := 1) (x := .slice a bs.length c) hzu1)).low (lo' := W.heap.size) (by omega))
        obtain ⟨zB, cB0, cB1⟩ := B6
        obtain ⟨⟨z1, z2, z3, c0, c1⟩, ⟨f0, f1⟩, gz⟩ := Z6
        clear ks FL6 hcell hcut fl hor fz
        go_wp2_with fail
        refine bodyPost_ret (v := .tuple #[.agg #[.int .i64 p, .slice a bs.length c], .int .i64 k, .slice (some ⟨gl, 0, none⟩) L.length cL]) (by simp [results, Tryz.results19, go_sem, gz, c0, c1]) rfl ?_
        exact ⟨p, a, c, bs, k, _, cL, r.tail :: L.tail, by rw [hlt], HL.out.1, by rw [hlt]; exact HV.out, ⟨hsm.1, hsm.2, Nat.le_trans HS6.out HSZ.out⟩, HL.out.2⟩
      · have hri : ¬ (0 : Int) < (r.length : Int) := by omega
        obtain ⟨a9, c9, e9, fl⟩ := OL.out.fr
        simp at e9
        obtain ⟨rfl, rfl⟩ := e9
        have FL := Lib.hid (fl.low (lo' := u.heap.size) hz3)
        clear fl
        obtain ⟨zB, cB0, cB1⟩ := F.out.bx
        obtain ⟨⟨z1, z2, z3, c0, c1⟩, ⟨f0, f1⟩, gz⟩ := F.out.z
        have HL := Lib.hid (layG (p := p) F.out.bl F.out.ob (by omega))
        have HV := Lib.hid ((((FL.out.set (i := 0) (x := .int .i64 p) hzu1).set (i := 1) (x := .slice a bs.length c) hzu1)).low (lo' := W.heap.size) (by omega))
        go_wp2_with fail
        refine bodyPost_ret (v := .tuple #[.agg #[.int .i64 p, .slice a bs.length c], .int .i64 k, .slice (some ⟨gl, 0, none⟩) L.length cL]) (by simp [results, Tryz.results19, go_sem, gz, c0, c1]) rfl ?_
        exact ⟨p, a, c, bs, k, _, cL, L, rfl, HL.out.1, HV.out, ⟨hsm.1, hsm.2, HSZ.out⟩, HL.out.2⟩
end Go.Proofs.YtfbmpkdjhhcnpaaGreat

namespace Go.Proofs.YtfbmpkdjhhcnpaaGreat
open Go.RowKit
set_option maxRecDepth 100000
set_option linter.unusedVariables false
set_option linter.unusedSimpArgs false
set_option maxHeartbeats 1000000 in
theorem sameInts_eq (a a' : Option Addr) (n cap cap' : Nat) (l : List Int) (W : World) (h : IntsAt W a n l) (h' : IntsAt W a' n l) (hn : n ≤ 17592186044416) :
    Calls Tryz.prog 54 #[.slice a n cap, .slice a' n cap'] W fun e w' => e = .returned (.bool true) ∧ ∃ m, w' = W.drewN m := by
  obtain ⟨hl, hc⟩ := h
  obtain ⟨-, hc'⟩ := h'
  have HL := Lib.hid hl
  have HC := Lib.hid hc
  have HC' := Lib.hid hc'
  clear hl hc hc'
  go_enter Tryz.func54, Tryz.ntmps54
  go_wp2
  go_loopw [5] (fun i wr => ∃ k : Nat, k ≤ n ∧ i = .int .i64 k ∧ (∃ m, wr = W.drewN m)) (fun i _ => n - (intOf i).toNat)
  case atStart => exact ⟨0, Nat.zero_le _, rfl, ⟨0, rfl⟩⟩
  case round =>
    obtain ⟨k, hk, rfl, ⟨m, rfl⟩⟩ := hrel
    by_cases hlt : k < n
    · obtain ⟨b, off, x, rfl, hbl, hx, hcell⟩ := HC.out k hlt
      obtain ⟨b', off', x', rfl, hbl', hx', hcell'⟩ := HC'.out k hlt
      obtain rfl : x = x' := Option.some.inj (hx.symm.trans hx')
      clear hx hx'
      go_wp2
      go_quiet (fail)
      go_wp2
      go_roundw
      case rel => exact ⟨k + 1, by omega, by go_num, ⟨_, rfl⟩⟩
      case measure => simp [intOf]; omega
    · obtain rfl : k = n := by omega
      go_wp2
      go_ret
      first | exact ⟨_, rfl⟩ | exact ⟨rfl, m, rfl⟩
set_option maxHeartbeats 1000000 in
theorem sameSets_eq (a a' : Option Addr) (n cap cap' : Nat) (ll : List (List Int)) (W : World) (h : IntssAt W a n ll) (h' : IntssAt W a' n ll) (hn : n ≤ 17592186044416) (hs : ∀ r ∈ ll, r.length ≤ 17592186044416) :
    Calls Tryz.prog 9 #[.slice a n cap, .slice a' n cap'] W fun e w' => e = .returned (.bool true) ∧ Below W.heap.size W w' := by
  have hwd := @Wd.cells
  obtain ⟨hl, hc⟩ := h
  obtain ⟨-, hc'⟩ := h'
  have HL := Lib.hid hl
  have HC := Lib.hid hc
  have HC' := Lib.hid hc'
  clear hl hc hc'
  go_enter Tryz.func9, Tryz.ntmps9
  go_wp2
  go_loopw [5] (fun i wr => ∃ k : Nat, k ≤ n ∧ i = .int .i64 k ∧ Below W.heap.size W wr) (fun i _ => n - (intOf i).toNat)
  case atStart => exact ⟨0, Nat.zero_le _, rfl, Below.refl _ _⟩
  case round =>
    obtain ⟨k, hk, rfl, B⟩ := hrel
    by_cases hlt : k < n
    · obtain ⟨b, off, ar, cr, r, rfl, hbl, hx, hcell, hi⟩ := HC.out k hlt
      obtain ⟨b', off', ar', cr', r', rfl, hbl', hx', hcell', hi'⟩ := HC'.out k hlt
      obtain rfl : r = r' := Option.some.inj (hx.symm.trans hx')
      have HS : Hid (∀ w9, Below wr.heap.size wr w9 → Calls Tryz.prog 54 #[.slice ar r.length cr, .slice ar' r.length cr'] w9 fun e w' => e = .returned (.bool true) ∧ Below w9.heap.size w9 w') := Lib.hid fun w9 hb => (sameInts_eq ar ar' r.length cr cr' r w9 (hi.below (B.step hb)) (hi'.below (B.step hb)) (hs r (List.mem_of_getElem? hx))).mono fun e w' ⟨h1, m, h2⟩ => ⟨h1, by rw [h2]; exact below_drewN (Below.refl _ _) m⟩
      have g1 := (B.cell (p := ⟨b, off + k, none⟩) hbl).trans hcell
      have g2 := (B.cell (p := ⟨b', off' + k, none⟩) hbl').trans hcell'
      have z1 := Nat.lt_of_lt_of_le hbl B.size
      have z2 := Nat.lt_of_lt_of_le hbl' B.size
      have hki : (k : Int) < (n : Int) := by omega
      have hk0 : (0 : Int) ≤ (k : Int) := by omega
      clear hx hx' hi hi' hcell hcell' hbl hbl'
      go_wp2
      refine wp_region_wd (by kernel_rfl) (by kernel_rfl) ?_
      repeat (go_big_quiet_step ((first | (go_at_call 54; exact Calls.wd_of (HS.out _ (Wd.h _))))))
      refine wpQuiet_nil ?_
      intro n1
      have bn := n1.h
      go_wp2
      go_roundw
      case rel => exact ⟨k + 1, by omega, by go_num, B.step bn⟩
      case measure => simp [intOf]; omega
    · obtain rfl : k = n := by omega
      go_wp2
      go_ret
      first | exact ⟨rfl, B⟩ | exact B
set_option maxHeartbeats 1000000 in
theorem big_at (W : World) (a : Option Addr) (n cap : Nat) : Calls Tryz.prog 5 #[.slice a n cap] W fun e w' => e = .returned (.bool (decide ((1048576 : Int) < n))) ∧ w' = W := by
  go_enter Tryz.func5, Tryz.ntmps5
  go_wp2
  go_ret
  exact ⟨rfl, rfl⟩
theorem sz_parts {ll : List (List Int)} (h : szIntss ll ≤ 1048576) : ll.length ≤ 1048576 ∧ ∀ r ∈ ll, r.length ≤ 1048576 := by
  unfold szIntss at h
  refine ⟨by omega, fun r hr => ?_⟩
  obtain ⟨k, hk⟩ := List.getElem?_of_mem hr
  have := sumLen_mem hk
  omega
end Go.Proofs.YtfbmpkdjhhcnpaaGreat

namespace Go.Proofs.YtfbmpkdjhhcnpaaGreat
open Go.RowKit Gr
set_option maxRecDepth 100000
set_option linter.unusedVariables false
set_option linter.unusedSimpArgs false

theorem toLL_succ (F : Nat → Nat → Int) (i n : Nat) : toLL F (i + 1) n = toLL F i n ++ [rowL n (F i)] := by simp [toLL, List.range_succ]
theorem rowL_succ (n : Nat) (f : Nat → Int) : rowL (n + 1) f = rowL n f ++ [f n] := by simp [rowL, List.range_succ]
theorem trees_no {p : Int} {l : List BarT} (h : isGraphB (p, l) = false) : treesN (p, l) = -1 := by unfold treesN; rw [h]; rfl
theorem trees_big {p : Int} {l : List BarT} (h : 6 < p) : treesN (p, l) = -1 := by
  unfold treesN
  rw [show decide ((p, l).1 ≤ 6) = false from decide_eq_false (by show ¬ p ≤ 6; omega), Bool.and_false]; rfl
theorem trees_yes {P : Nat} {l : List BarT} (h : isGraphB ((P : Int), l) = true) (h6 : P ≤ 6) : treesN ((P : Int), l) = wrap64 (detL (P - 1) (lapW P l)) := by
  unfold treesN
  rw [h, show decide (((P : Int), l).1 ≤ 6) = true from decide_eq_true (by show (P : Int) ≤ 6; omega)]
  rfl

set_option maxHeartbeats 8000000 in
theorem specCtr_at (W : World) (p : Int) (a : Option Addr) (cap : Nat) (l : List BarT) (h : BarsAt W a l.length l) (hs : l.length ≤ 1048576) : Calls Tryz.prog 14 #[.agg #[.int .i64 p, .slice a l.length cap]] W fun e w' => e = .returned (.int .i64 (treesN (p, l))) ∧ Below W.heap.size W w' := by
  have hwd := @Wd.cells
  have HGr : Hid (IsGraph W (.agg #[.int .i64 p, .slice a l.length cap]) (p, l)) := Lib.hid ⟨a, cap, rfl, h⟩
  have H1 := Lib.hid h
  clear h
  have hsz : szGraph (p, l) ≤ 1048576 := hs
  have hsz2 : szGraph (p, l) ≤ 1099511627776 := Nat.le_trans hsz (by decide)
  have B : Below W.heap.size W (W.alloc (.cells #[.int .i64 p, .slice a l.length cap] 26)) := (Below.refl _ _).alloc (Nat.le_refl _) _
  have BG : Hid (BoxGr (W.alloc (.cells #[.int .i64 p, .slice a l.length cap] 26)) W.heap.size p a l.length cap) := Lib.hid (BoxGr.at rfl)
  cases hg : isGraphB (p, l)
  · have HE := Lib.hid (trees_no hg)
    go_enter Tryz.func14, Tryz.ntmps14
    go_wp2_with fail
    generalize (W.alloc (.cells #[.int .i64 p, .slice a l.length cap] 26)) = u at *
    obtain ⟨zBG, fBG0, fBG1⟩ := BG.out
    refine (spec_IsGraph_is _ _ (p, l) (HGr.out.below B) hsz2).mono ?_
    rintro e w1 ⟨rfl, b⟩
    rw [hg]
    go_wp2_with fail
    go_ret
    exact ⟨by rw [HE.out]; rfl, B.step b⟩
  by_cases h6 : 6 < p
  · have HE := Lib.hid (trees_big (l := l) h6)
    have h6d : decide (6 < p) = true := decide_eq_true h6
    go_enter Tryz.func14, Tryz.ntmps14
    go_wp2_with fail
    generalize (W.alloc (.cells #[.int .i64 p, .slice a l.length cap] 26)) = u at *
    obtain ⟨zBG, fBG0, fBG1⟩ := BG.out
    refine (spec_IsGraph_is _ _ (p, l) (HGr.out.below B) hsz2).mono ?_
    rintro e w1 ⟨rfl, b⟩
    have BG1 := Lib.hid (BG.out.below b)
    clear zBG fBG0 fBG1
    obtain ⟨zBG, fBG0, fBG1⟩ := BG1.out
    rw [hg]
    go_wp2_with fail
    go_ret
    exact ⟨by rw [HE.out]; rfl, B.step b⟩
  obtain ⟨⟨hp1, hp2⟩, hl24⟩ := isGraphB_bd hg
  have HBR : Hid (∀ x ∈ l, 0 ≤ x.1 ∧ x.1 < x.2) := Lib.hid fun x hx => by
    obtain ⟨i, hi⟩ := List.getElem?_of_mem hx
    have := isGraphB_bar hg hi
    omega
  obtain ⟨P, rfl⟩ := Int.eq_ofNat_of_zero_le (show 0 ≤ p by omega)
  have hP6 : P ≤ 6 := by omega
  have hP1 : 1 ≤ P := by omega
  have HE := Lib.hid (trees_yes hg hP6)
  have h6d : decide (6 < (P : Int)) = false := decide_eq_false h6
  have h6n : decide (6 < P) = false := decide_eq_false (by omega)
  clear h6 hp1 hp2
  go_enter Tryz.func14, Tryz.ntmps14
  go_wp2_with fail
  generalize hu : (W.alloc (.cells #[.int .i64 (P : Int), .slice a l.length cap] 26)) = u at *
  clear hu
  obtain ⟨zBG, fBG0, fBG1⟩ := BG.out
  refine (spec_IsGraph_is _ _ ((P : Int), l) (HGr.out.below B) hsz2).mono ?_
  rintro e w1 ⟨rfl, b⟩
  replace B := B.step b
  clear zBG fBG0 fBG1
  replace BG := Lib.hid (BG.out.below b)
  clear b
  obtain ⟨zBG, fBG0, fBG1⟩ := BG.out
  rw [hg]
  clear hg
  have hr0 := made_ints2 w1
  have hrb : Below w1.heap.size w1 (w1.alloc (.cells #[] 35)) := (Below.refl _ _).alloc (Nat.le_refl _) _
  have HR0 := Lib.hid hr0
  clear hr0
  go_wp2_with fail
  clear zBG fBG0 fBG1
  generalize w1.alloc (.cells #[] 35) = w3 at *
  go_loopw [3, 4] (fun o iv w9 => ∃ i : Nat, i ≤ P ∧ iv = .int .i64 i ∧ OwnIntss w9 w1.heap.size o (toLL (lapTo l l.length) i P) ∧ Below w1.heap.size w1 w9) (fun _ iv _ => P - (intOf iv).toNat)
  case atStart => exact ⟨0, Nat.zero_le _, rfl, HR0.out, hrb⟩
  case round =>
    clear hrb HR0
    obtain ⟨i, hi, rfl, ho, hb⟩ := hrel
    have HO := Lib.hid ho
    clear ho
    have hbz := hb.size
    have BG1 := Lib.hid (BG.out.below hb)
    obtain ⟨zBG, fBG0, fBG1⟩ := BG1.out
    by_cases hil : i < P
    · have hili : (i : Int) < (P : Int) := by omega
      have hr0 := OwnInts.made wr wr.heap.size (Nat.le_refl _)
      have hrb : Below wr.heap.size wr (wr.alloc (.cells #[] 3)) := (Below.refl _ _).alloc (Nat.le_refl _) _
      have HR0 := Lib.hid hr0
      clear hr0
      go_wp2_with fail
      clear zBG fBG0 fBG1
      obtain ⟨wo, hwo⟩ : ∃ wo, wo = wr := ⟨_, rfl⟩
      subst hwo
      generalize wo.alloc (.cells #[] 3) = w4 at *
      go_loopw [5, 6] (fun o jv w9 => ∃ j : Nat, j ≤ P ∧ jv = .int .i64 j ∧ OwnInts w9 wo.heap.size o (rowL j (lapTo l l.length i)) ∧ Below wo.heap.size wo w9) (fun _ jv _ => P - (intOf jv).toNat)
      case atStart => exact ⟨0, Nat.zero_le _, rfl, HR0.out, hrb⟩
      case round =>
        clear hrb HR0
        obtain ⟨j, hj, rfl, hor, hb4⟩ := hrel
        have HU := Lib.hid hor
        clear hor
        have hb4z := hb4.size
        have BG2 := Lib.hid (BG1.out.below hb4)
        have HRL : Hid ((rowL j (lapTo l l.length i)).length < 17592186044416) := Lib.hid (by rw [rowL_length]; omega)
        have HRS := Lib.hid (rowL_succ j (lapTo l l.length i))
        have B5 := B.step (hb.step hb4)
        obtain ⟨zBG, fBG0, fBG1⟩ := BG2.out
        by_cases hjl : j < P
        · have hjli : (j : Int) < (P : Int) := by omega
          by_cases hij : i = j
          · have hijb : ((i : Int) == (j : Int)) = true := by rw [hij]; simp
            have HEN : Hid (lapTo l l.length i j = degTo l (i : Int) l.length) := Lib.hid (by rw [← hij]; exact lap_diag HBR.out i _)
            clear hij
            go_wp2_with fail
            refine (specDeg_at _ _ _ _ _ (H1.out.below B5) hs _).mono ?_
            rintro e w5 ⟨rfl, b5⟩
            rw [← HEN.out]
            have hbe := hb4.step b5
            have hbez := hbe.size
            have HU5 := Lib.hid (HU.out.below b5)
            go_wp2_with (at_builtin; refine app1 rfl (.tmp 32) (.tmp 36) rfl rfl HU5.out _ rfl HRL.out hbez ?_; intro v' w6 h6 k6)
            go_roundw
            case rel => exact ⟨j + 1, by omega, by go_num, by rw [HRS.out]; exact h6, hbe.trans (k6.setOwn HU5.out (Nat.le_refl _) hbez)⟩
            case measure => simp [intOf]; omega
          · have hijb : ((i : Int) == (j : Int)) = false := by rw [beq_eq_false_iff_ne]; omega
            have HEN : Hid (lapTo l l.length i j = -cntTo l (i : Int) (j : Int) l.length) := Lib.hid (lap_off HBR.out hij _)
            have hcb := cntTo_bd l (i : Int) (j : Int) l.length
            clear hij
            go_wp2_with fail
            refine (specCnt_at _ _ _ _ _ (H1.out.below B5) hs _ _).mono ?_
            rintro e w5 ⟨rfl, b5⟩
            have hbe := hb4.step b5
            have hbez := hbe.size
            have HU5 := Lib.hid (HU.out.below b5)
            generalize cntTo l (i : Int) (j : Int) l.length = C at *
            have HRS2 : Hid (rowL (j + 1) (lapTo l l.length i) = rowL j (lapTo l l.length i) ++ [-C]) := Lib.hid (by rw [HRS.out, HEN.out])
            go_wp2_with (at_builtin; refine app1 rfl (.tmp 38) (.tmp 44) rfl rfl HU5.out _ rfl HRL.out hbez ?_; intro v' w6 h6 k6)
            go_roundw
            case rel => exact ⟨j + 1, by omega, by go_num, by rw [HRS2.out]; exact h6, hbe.trans (k6.setOwn HU5.out (Nat.le_refl _) hbez)⟩
            case measure => simp [intOf]; omega
        · obtain rfl : j = P := by omega
          have HTS := Lib.hid (toLL_succ (lapTo l l.length) i j)
          obtain ⟨au, cu, rfl, hiu⟩ := HU.out.form
          clear hiu
          obtain ⟨vs, hvs, hrs⟩ := HO.out
          have HV := Lib.hid hvs
          have HVR := Lib.hid hrs
          have HB4 := Lib.hid hb4
          have HLK : Hid ((toLL (lapTo l l.length) i j).length < 1099511627776) := Lib.hid (by rw [toLL_length]; omega)
          clear hvs hrs
          go_wp2_with (at_builtin; refine appRow (by rfl) (.tmp 46) (.tmp 48) (by rfl) (by rfl) (ownsRow_base HU.out hbz) HB4.out HV.out HVR.out (fun q hq => (HU.out.lt q hq).1) (by rfl) HLK.out (by omega) ?_; intro v' w8 h8 k8)
          go_roundw
          case rel =>
            refine ⟨i + 1, by omega, by go_num, by rw [HTS.out]; exact h8, hb.trans ?_⟩
            have hvs := HV.out
            exact (HB4.out.mono hbz).trans (k8.below (by omega) fun z h1 h2 => by
              have := (World.ownsRow.lt hvs z h2.symm).1
              omega)
          case measure => simp [intOf]; omega
    · obtain rfl : i = P := by omega
      obtain ⟨al, cl, rfl, hil2⟩ := HO.out.form
      have hll : (toLL (lapTo l l.length) i i).length = i := toLL_length _ _ _
      have B5 := B.step hb
      have HCC : Hid (Calls Tryz.prog 65 #[.slice al i cl, .int .i64 ((i : Int) - 1)] wr fun e w' => e = .returned (.int .i64 (wrap64 (detL (i - 1) (lapW i l)))) ∧ Below wr.heap.size wr w') := Lib.hid (by
        have h9 := l8Det_at (i - 1) (by omega) (lapW i l) wr al cl (by unfold lapW; rw [toLL_length]; omega) (by unfold lapW; rw [toLL_length]; omega) (fun r hr => by
          unfold lapW toLL at hr
          obtain ⟨q, _, rfl⟩ := List.mem_map.1 hr
          rw [rowL_length]; omega) hil2
        rw [show (lapW i l).length = i from toLL_length _ _ _, show (((i - 1 : Nat)) : Int) = (i : Int) - 1 by omega] at h9
        exact h9)
      simp only [hll]
      clear hll hil2
      go_wp2_with fail
      refine HCC.out.mono ?_
      rintro e w7 ⟨rfl, b7⟩
      go_wp2_with fail
      go_ret
      exact ⟨by rw [HE.out]; rfl, B5.step b7⟩
theorem spec_CountTrees (W : World) (v : Value) (g : GraphT) (h : IsGraph W v g) (hn : szGraph g ≤ 1048576) : Calls Tryz.prog 14 #[v] W fun e w' => e = .returned (.int .i64 (treesN g)) ∧ Below W.heap.size W w' := by
  obtain ⟨p, l⟩ := g
  obtain ⟨a, cap, rfl, hi⟩ := h
  exact specCtr_at _ _ _ _ _ hi hn
end Go.Proofs.YtfbmpkdjhhcnpaaGreat

namespace Gr
set_option linter.unusedVariables false
set_option linter.unusedSimpArgs false
theorem kf_lo {n : Nat} : ∀ (c : List Nat) (a : Form (n + 1)), (∀ j ∈ c, j < n) → kf (n + 1) c a = kf n c (lo a)
  | [], a, _ => rfl
  | q :: c, a, h => by
    have hq := h q (List.mem_cons_self ..)
    show kf (n + 1) c (fi (n + 1) q a) = kf n c (fi n q (lo a))
    rw [kf_lo c _ fun j hj => h j (List.mem_cons_of_mem _ hj), lo_fi _ _ (by omega)]
theorem kf_hi {n : Nat} (c : List Nat) (a : Form (n + 1)) (h : ∀ j ∈ c, j < n) : kf (n + 1) (n :: c) a = kf n c (hi a) := by
  show kf (n + 1) c (fi (n + 1) n a) = _
  rw [kf_lo c _ h, lo_fi' _ _ rfl]
theorem kf_all : ∀ (n : Nat) (a : Form n), (∀ c : List Nat, (∀ j ∈ c, j < n) → kf n c a = 0) → a = fz n
  | 0, a, h => h [] (by simp)
  | n + 1, a, h => by
    refine fext ?_ ?_
    · exact kf_all n (lo a) fun c hc => by rw [← kf_lo c a hc]; exact h c fun j hj => by have := hc j hj; omega
    · refine kf_all n (hi a) fun c hc => ?_
      rw [← kf_hi c a hc]
      refine h _ fun j hj => ?_
      rcases List.mem_cons.1 hj with rfl | hj
      · omega
      · have := hc j hj; omega
theorem top0 : ∀ (n : Nat) (a : Form n), gr n n a → kf n (List.range n) a = 0 → a = fz n
  | 0, a, _, h => h
  | n + 1, a, hg, h => by
    rw [List.range_succ, kf_snoc, kf_hi _ _ fun j hj => List.mem_range.1 hj] at h
    refine fext (gr_long hg.1 (by omega)) (top0 n (hi a) (hg.2.2 n rfl) ?_)
    rcases Int.mul_eq_zero.1 h with h1 | h1
    · unfold sg at h1; split at h1 <;> omega
    · exact h1
theorem dt_add' (n : Nat) (c A B : Nat → Int) (e : Int) : dt n c (fun i => A i + B i * e) = dt n c A + e * dt n c B := by
  induction n with
  | zero => simp [dt]
  | succ n ih => simp only [dt, ih]; grind
theorem dt_cg {n : Nat} {x y u v : Nat → Int} (h : ∀ k, k < n → x k = y k) (h2 : ∀ k, k < n → u k = v k) : dt n x u = dt n y v := by
  induction n with
  | zero => rfl
  | succ n ih => simp only [dt]; rw [ih (fun k hk => h k (by omega)) fun k hk => h2 k (by omega), h n (by omega), h2 n (by omega)]
theorem dt_z (n : Nat) (x : Nat → Int) : dt n x (fun _ => 0) = 0 := by
  induction n with
  | zero => rfl
  | succ n ih => simp only [dt, ih]; omega
theorem dt_sc (n : Nat) (s : Int) (x y : Nat → Int) : dt n (fun j => s * x j) y = s * dt n x y := by
  induction n with
  | zero => simp [dt]
  | succ n ih => simp only [dt, ih]; grind
/-- what a linear function makes of the contractions is a sum of the rows -/
theorem linc {n : Nat} (R : Nat → Nat → Int) : ∀ (r : Nat) (L : Form n → Int), (∀ a b, L (fadd n a b) = L a + L b) → (∀ c a, L (fmul n c a) = c * L a) → ∃ a : Nat → Int, ∀ k, k < n → L (fi n k (wl n ((List.range r).map R))) = dt r a fun j => R j k
  | 0, L, hadd, hmul => ⟨fun _ => 0, fun k hk => by
    have h0 : L (fz n) = 0 := by have := hmul 0 (fz n); rwa [fmul_fz, Int.zero_mul] at this
    show L (fi n k (one n)) = 0
    rw [fi_one, h0]⟩
  | r + 1, L, hadd, hmul => by
    obtain ⟨a, ha⟩ := linc R r (fun w => L (fw n (R r) w)) (fun a b => by rw [fw_add, hadd]) (fun c a => by rw [fw_mul, hmul])
    refine ⟨fun j => if j = r then sg r * L (wl n ((List.range r).map R)) else (-sg r) * a j, fun k hk => ?_⟩
    rw [List.range_succ, List.map_append, List.map_cons, List.map_nil, wl_snoc, List.length_map, List.length_range, fi_mul, hmul, fi_fw hk, hadd, hmul, hmul, ha k hk]
    simp only [dt, if_pos]
    rw [dt_cg (x := fun j => if j = r then sg r * L (wl n ((List.range r).map R)) else (-sg r) * a j) (y := fun j => (-sg r) * a j) (fun j hj => if_neg (by omega)) (fun j _ => rfl), dt_sc]
    grind
/-- rows whose product is zero depend on one another -/
theorem dep_wl {n : Nat} (R : Nat → Nat → Int) : ∀ r, wl n ((List.range r).map R) = fz n → ∃ c : Nat → Int, (∃ j, j < r ∧ c j ≠ 0) ∧ ∀ k, k < n → (dt r c fun j => R j k) = 0
  | 0, h => by
    have h9 := sc_one n
    have h8 : one n = fz n := h
    rw [h8, sc_fz] at h9
    omega
  | r + 1, h => by
    rw [List.range_succ, List.map_append, List.map_cons, List.map_nil, wl_snoc, List.length_map, List.length_range] at h
    have h1 : fw n (R r) (wl n ((List.range r).map R)) = fz n := by
      have h2 : fmul n (sg r) (fmul n (sg r) (fw n (R r) (wl n ((List.range r).map R)))) = fz n := by rw [h, fmul_fz]
      rw [fmul_mul, sg_sq] at h2
      rw [← h2]
      exact co_ext fun s => by rw [co_mul]; omega
    by_cases hz : wl n ((List.range r).map R) = fz n
    · obtain ⟨c, ⟨j, hj, hcj⟩, hc⟩ := dep_wl R r hz
      refine ⟨fun i => if i = r then 0 else c i, ⟨j, by omega, by show (if j = r then 0 else c j) ≠ 0; rw [if_neg (by omega)]; exact hcj⟩, fun k hk => ?_⟩
      simp only [dt, if_pos]
      rw [dt_cg (x := fun i => if i = r then 0 else c i) (y := c) (fun i hi => if_neg (by omega)) (fun i _ => rfl), hc k hk]
      omega
    · obtain ⟨cc, hcc⟩ := Classical.not_forall.1 fun hall => hz (kf_all n _ hall)
      obtain ⟨hcn, hd⟩ := Classical.not_imp.1 hcc
      obtain ⟨a, ha⟩ := linc R r (fun w => kf n cc (fw n (R r) w)) (fun a b => by rw [fw_add, kf_add]) (fun c a => by rw [fw_mul, kf_mul])
      refine ⟨fun i => if i = r then kf n cc (wl n ((List.range r).map R)) else -1 * a i, ⟨r, by omega, by show (if r = r then kf n cc (wl n ((List.range r).map R)) else -1 * a r) ≠ 0; rw [if_pos rfl]; exact hd⟩, fun k hk => ?_⟩
      simp only [dt, if_pos]
      rw [dt_cg (x := fun i => if i = r then kf n cc (wl n ((List.range r).map R)) else -1 * a i) (y := fun i => -1 * a i) (fun i hi => if_neg (by omega)) (fun i _ => rfl), dt_sc, ← ha k hk]
      have h3 := ev_eq (c := cc) (R := (List.range r).map R) (x := R r) hk
      have h4 : ev n cc ((List.range r).map R) (R r) k = 0 := by
        unfold ev
        rw [h1, fi_fz, kf_fz]
      rw [h4] at h3
      omega
end Gr
namespace Go.Proofs.YtfbmpkdjhhcnpaaGreat
open Go.RowKit Gr
set_option maxRecDepth 100000
set_option linter.unusedVariables false
set_option linter.unusedSimpArgs false
/-- sums over the rows of the Laplacian -/
def qs (l : List BarT) (c : Nat → Int) (m : Nat) : Nat → Nat → Int
  | 0, _ => 0
  | K + 1, k => qs l c m K k + match l[K]? with
    | some x => dt m c (dv x) * dv x k
    | none => 0
theorem lap_qs {l : List BarT} (c : Nat → Int) (m : Nat) (k : Nat) : ∀ K, K ≤ l.length → (dt m c fun i => lapTo l K i k) = qs l c m K k
  | 0, _ => dt_z m c
  | K + 1, h => by
    obtain ⟨x, hx⟩ : ∃ x, l[K]? = some x := ⟨_, List.getElem?_eq_getElem (by omega)⟩
    rw [dt_cg (x := c) (y := c) (u := fun i => lapTo l (K + 1) i k) (v := fun i => lapTo l K i k + dv x i * dv x k) (fun _ _ => rfl) (fun i _ => lapTo_succ hx i k), dt_add', lap_qs c m k K (by omega)]
    unfold qs
    rw [hx]
    dsimp only
    cases K <;> (simp only [qs]; grind)
theorem qs_quad {l : List BarT} (c : Nat → Int) (m : Nat) : ∀ K, K ≤ l.length → 0 ≤ (dt m c fun k => qs l c m K k) ∧ ((dt m c fun k => qs l c m K k) = 0 → ∀ e x, e < K → l[e]? = some x → dt m c (dv x) = 0)
  | 0, _ => ⟨by have h0 : (dt m c fun k => qs l c m 0 k) = 0 := dt_z m c
                rw [h0]; exact Int.le_refl 0, fun _ e x h => by omega⟩
  | K + 1, h => by
    obtain ⟨x, hx⟩ : ∃ x, l[K]? = some x := ⟨_, List.getElem?_eq_getElem (by omega)⟩
    obtain ⟨h1, h2⟩ := qs_quad (l := l) c m K (by omega)
    have e1 : (dt m c fun k => qs l c m (K + 1) k) = (dt m c fun k => qs l c m K k) + dt m c (dv x) * dt m c (dv x) := by
      rw [dt_cg (y := c) (v := fun k => qs l c m K k + dv x k * dt m c (dv x)) (fun _ _ => rfl) (fun k _ => by
        show qs l c m (K + 1) k = _
        conv => lhs; unfold qs
        rw [hx]
        dsimp only
        grind), dt_add']
    have h3 := mul_self_nonneg' (dt m c (dv x))
    rw [e1]
    refine ⟨by omega, fun h0 e y he hy => ?_⟩
    by_cases hek : e = K
    · subst hek
      rw [hx] at hy
      cases hy
      have h4 : dt m c (dv x) * dt m c (dv x) = 0 := by omega
      rcases Int.mul_eq_zero.1 h4 with h5 | h5 <;> exact h5
    · exact h2 (by omega) e y (by omega) hy
def ext0 (c : Nat → Int) (m : Nat) (v : Nat) : Int := if v < m then c v else 0
theorem dt_e1 (c : Nat → Int) (a : Nat) : ∀ m, dt m c (e1 a) = ext0 c m a
  | 0 => by unfold ext0; rw [if_neg (by omega)]; rfl
  | m + 1 => by
    simp only [dt, dt_e1 c a m]
    unfold ext0 e1
    by_cases h : m = a
    · subst h; rw [if_neg (by omega), if_pos rfl, if_pos (by omega)]; omega
    · by_cases h2 : a < m
      · rw [if_pos h2, if_neg (by omega), if_pos (by omega)]; omega
      · rw [if_neg h2, if_neg (by omega), if_neg (by omega)]; omega
theorem dt_dv (c : Nat → Int) (m : Nat) (x : BarT) : dt m c (dv x) = ext0 c m x.1.toNat - ext0 c m x.2.toNat := by
  have h := dt_add' m c (e1 x.1.toNat) (e1 x.2.toNat) (-1)
  rw [dt_e1, dt_e1] at h
  rw [dt_cg (y := c) (v := fun i => e1 x.1.toNat i + e1 x.2.toNat i * -1) (fun _ _ => rfl) (fun i _ => by unfold dv; omega), h]
  omega
/-- the number of trees as a minor -/
theorem lap_minor (m : Nat) (l : List BarT) : detL m (lapW (m + 1) l) = kf m (List.range m) (wl m ((List.range m).map (lapTo l l.length))) := by
  rw [detL_take]
  have e : ((lapW (m + 1) l).take m).map (fun r => r.take m) = grid ((List.range m).map (lapTo l l.length)) (List.range m) := by
    unfold lapW toLL grid rowL
    rw [← List.map_take, List.take_range, Nat.min_eq_left (by omega), List.map_map, List.map_map]
    refine List.map_congr_left fun i _ => ?_
    show ((List.range (m + 1)).map _).take m = _
    rw [← List.map_take, List.take_range, Nat.min_eq_left (by omega)]
    rfl
  rw [e]
  exact detL_kf m _ _ (by simp) (by simp) fun j hj => List.mem_range.1 hj
theorem conn_ext {l : List BarT} {c : Nat → Int} {m : Nat} (h : ∀ x ∈ l, dt m c (dv x) = 0) {v w : Nat} (hc : Fo.Conn (edL l) v w) : ext0 c m v = ext0 c m w := by
  induction hc with
  | refl v => rfl
  | symm _ ih => exact ih.symm
  | trans _ _ ih1 ih2 => exact ih1.trans ih2
  | @edge a b hab =>
    obtain ⟨x, hx, he⟩ := List.mem_map.1 hab
    have h1 := h x hx
    rw [dt_dv] at h1
    unfold eN at he
    cases he
    omega
theorem det_conn {m : Nat} {l : List BarT} (hc : ∀ v, v < m → Fo.Conn (edL l) v m) : detL m (lapW (m + 1) l) ≠ 0 := by
  rw [lap_minor]
  intro h
  have h1 : wl m ((List.range m).map (lapTo l l.length)) = fz m := top0 m _ (by have := gr_wl m ((List.range m).map (lapTo l l.length)); rwa [List.length_map, List.length_range] at this) h
  obtain ⟨c, ⟨j, hj, hcj⟩, hk⟩ := dep_wl (lapTo l l.length) m h1
  have h2 := (qs_quad (l := l) c m l.length (Nat.le_refl _)).2 (by
    rw [dt_cg (y := c) (v := fun _ => 0) (fun _ _ => rfl) (fun k hkm => by rw [← lap_qs c m k l.length (Nat.le_refl _)]; exact hk k hkm), dt_z])
  have h3 : ∀ x ∈ l, dt m c (dv x) = 0 := fun x hx => by
    obtain ⟨e, he⟩ := List.getElem?_of_mem hx
    exact h2 e x (lt_of_getElem? he) he
  have h4 := conn_ext h3 (hc j hj)
  unfold ext0 at h4
  rw [if_pos hj, if_neg (by omega)] at h4
  exact hcj h4
theorem sq_nn : ∀ (n : Nat) (x : Nat → Int), 0 ≤ Gr.sq n x
  | 0, _ => Int.le_refl 0
  | n + 1, x => by
    have h1 := sq_nn n x
    have h2 := mul_self_nonneg' (x n)
    show 0 ≤ Gr.sq n x + x n * x n
    omega
open Classical in
theorem det_apart {m : Nat} {l : List BarT} (hl : ∀ x ∈ l, x.1.toNat < m + 1 ∧ x.2.toNat < m + 1) {v0 : Nat} (hv : v0 < m) (hn : ¬ Fo.Conn (edL l) v0 m) : detL m (lapW (m + 1) l) = 0 := by
  rw [lap_minor]
  obtain ⟨c, hcd⟩ : ∃ c : Nat → Int, c = fun v => if Fo.Conn (edL l) v m then 0 else 1 := ⟨_, rfl⟩
  have h1 : ∀ x ∈ l, dt m c (dv x) = 0 := fun x hx => by
    have hx2 := hl x hx
    have he : Fo.Conn (edL l) x.1.toNat x.2.toNat := .edge (List.mem_map.2 ⟨x, hx, rfl⟩)
    rw [dt_dv]
    have key : ∀ v, v < m + 1 → ext0 c m v = if Fo.Conn (edL l) v m then 0 else 1 := fun v hv => by
      unfold ext0
      by_cases h : v < m
      · rw [if_pos h, hcd]
      · obtain rfl : v = m := by omega
        rw [if_neg h, if_pos (.refl _)]
    rw [key _ hx2.1, key _ hx2.2]
    by_cases h : Fo.Conn (edL l) x.1.toNat m
    · rw [if_pos h, if_pos (he.symm.trans h)]; omega
    · rw [if_neg h, if_neg fun h2 => h (he.trans h2)]; omega
  have h2 : ∀ K, K ≤ l.length → ∀ k, qs l c m K k = 0 := fun K => by
    induction K with
    | zero => intro _ k; rfl
    | succ K ih =>
      intro hK k
      obtain ⟨x, hx⟩ : ∃ x, l[K]? = some x := ⟨_, List.getElem?_eq_getElem (by omega)⟩
      unfold qs
      rw [hx, ih (by omega) k]
      dsimp only
      rw [h1 x (List.mem_of_getElem? hx), Int.zero_mul]
      rfl
  have h3 : ∀ i, dt m c (lapTo l l.length i) = 0 := fun i => by
    rw [dt_cg (y := c) (v := fun k => lapTo l l.length k i) (fun _ _ => rfl) (fun k _ => lapTo_sym l l.length i k), lap_qs c m i l.length (Nat.le_refl _), h2 _ (Nat.le_refl _)]
  have hs : 0 < Gr.sq m c := by
    have key : ∀ n, v0 < n → 0 < Gr.sq n c := fun n => by
      induction n with
      | zero => intro h; omega
      | succ n ih =>
        intro h
        have h5 := mul_self_nonneg' (c n)
        show 0 < Gr.sq n c + c n * c n
        by_cases e : v0 = n
        · have h6 : c n = 1 := by rw [← e, hcd]; exact if_neg hn
          have h7 := sq_nn n c
          rw [h6]; omega
        · have := ih (by omega); omega
    exact key m hv
  have h4 := wl_orth [c] (l := (List.range m).map (lapTo l l.length)) (fun t ht x hx => by
    obtain rfl := List.mem_singleton.1 ht
    obtain ⟨i, _, rfl⟩ := List.mem_map.1 hx
    exact h3 i) (List.pairwise_singleton _ _) (fun t ht => by obtain rfl := List.mem_singleton.1 ht; exact hs) (by simp)
  have h5 := kf_sq m (List.range m) (wl m ((List.range m).map (lapTo l l.length)))
  rw [h4] at h5
  have h6 := mul_self_nonneg' (kf m (List.range m) (wl m ((List.range m).map (lapTo l l.length))))
  have h7 : kf m (List.range m) (wl m ((List.range m).map (lapTo l l.length))) * kf m (List.range m) (wl m ((List.range m).map (lapTo l l.length))) = 0 := by omega
  rcases Int.mul_eq_zero.1 h7 with h8 | h8 <;> exact h8
/-- how many points a walk from point 0 reaches -/
def rchN (P : Nat) (l : List BarT) : Nat := Fo.cnt P fun v => Fo.mrounds (edL l) P v == 0
/-- is the graph connected -/
def connB (g : GraphT) : Bool := isGraphB g && decide (rchN g.1.toNat g.2 = g.1.toNat)
theorem rch_iff {P : Nat} {l : List BarT} (hP : 0 < P) (hr : ∀ x ∈ l, (0 ≤ x.1 ∧ x.1 < P) ∧ (0 ≤ x.2 ∧ x.2 < P)) : rchN P l = P ↔ ∀ v, v < P → Fo.Conn (edL l) v 0 := by
  have hR := edL_rng hr
  constructor
  · intro h v hv
    have h1 : (Fo.mrounds (edL l) P v == 0) = true := by
      refine Bool.of_not_eq_false fun hc => ?_
      have h2 : rchN P l + 1 ≤ Fo.cnt P fun _ => true := Fo.cnt_lt (fun _ _ _ => rfl) hv hc rfl
      have := Fo.cnt_le P fun _ => true
      omega
    have h2 := (Fo.own_rounds hR P v hv).2
    rw [beq_iff_eq] at h1
    rwa [h1] at h2
  · intro h
    refine Fo.cnt_all fun v hv => ?_
    rw [beq_iff_eq]
    exact Fo.rounds_least hR ⟨hP, fun k _ _ => Nat.zero_le k⟩ (h v hv)
theorem sq_bd24 {n : Nat} {x : Nat → Int} (h : ∀ k, k < n → -24 ≤ x k ∧ x k ≤ 24) : Gr.sq n x ≤ n * 576 := by
  induction n with
  | zero => exact Int.le_refl 0
  | succ n ih =>
    have h1 := ih fun k hk => h k (by omega)
    have h2 := h n (by omega)
    have h3 := Int.mul_nonneg (show 0 ≤ 24 - x n by omega) (show 0 ≤ 24 + x n by omega)
    have h4 : (24 - x n) * (24 + x n) = 576 - x n * x n := by grind
    show Gr.sq n x + x n * x n ≤ _
    rw [h4] at h3
    omega
theorem det_small {m : Nat} {l : List BarT} (hm : m ≤ 5) (hl : l.length ≤ 24) : -2121320343 ≤ detL m (lapW (m + 1) l) ∧ detL m (lapW (m + 1) l) ≤ 2121320343 := by
  rw [lap_minor]
  have h1 := kf_sq m (List.range m) (wl m ((List.range m).map (lapTo l l.length)))
  have h2 := nrm_wl m ((List.range m).map (lapTo l l.length)) 2880 (by decide) fun x hx => by
    obtain ⟨i, _, rfl⟩ := List.mem_map.1 hx
    have := sq_bd24 (n := m) (x := lapTo l l.length i) fun k _ => by have := lapTo_bd l l.length i k; omega
    omega
  rw [List.length_map, List.length_range] at h2
  have h3 : (2880 : Int) ^ m ≤ 4500000000000000000 := by
    have : m = 0 ∨ m = 1 ∨ m = 2 ∨ m = 3 ∨ m = 4 ∨ m = 5 := by omega
    rcases this with rfl | rfl | rfl | rfl | rfl | rfl <;> decide
  exact sq_small (B := 4500000000000000000) (by omega) (by decide)
/-- trees are counted: there is one if and only if the graph is connected -/
theorem trees_conn {g : GraphT} (h : 0 ≤ treesN g) : decide (0 < treesN g) = connB g := by
  obtain ⟨p, l⟩ := g
  cases hg : isGraphB (p, l)
  · rw [trees_no hg] at h; omega
  by_cases h6 : 6 < p
  · rw [trees_big h6] at h; omega
  have hb := isGraphB_bd hg
  obtain ⟨P, rfl⟩ : ∃ P : Nat, p = P := ⟨p.toNat, by omega⟩
  obtain ⟨m, rfl⟩ : ∃ m, P = m + 1 := ⟨P - 1, by omega⟩
  rw [trees_yes hg (by omega), Nat.add_sub_cancel] at h ⊢
  have hs := det_small (m := m) (l := l) (by omega) hb.2
  have hw : wrap64 (detL m (lapW (m + 1) l)) = detL m (lapW (m + 1) l) := by unfold wrap64; omega
  rw [hw] at h ⊢
  have hr := isGraphB_ends hg
  unfold connB
  rw [hg, Bool.true_and]
  dsimp only
  rw [Int.toNat_natCast, decide_eq_decide, rch_iff (by omega) hr]
  constructor
  · intro hd v hv
    have hall : ∀ v, v < m → Fo.Conn (edL l) v m := fun v hv => Classical.byContradiction fun hn => by
      rw [det_apart (fun x hx => by have := hr x hx; omega) hv hn] at hd
      omega
    have h0 : Fo.Conn (edL l) 0 m := by
      by_cases hm : m = 0
      · subst hm; exact .refl _
      · exact hall 0 (by omega)
    by_cases hvm : v = m
    · subst hvm; exact h0.symm
    · exact (hall v (by omega)).trans h0.symm
  · intro hc
    have := det_conn (m := m) (l := l) fun v hv => (hc v (by omega)).trans (hc m (by omega)).symm
    omega
end Go.Proofs.YtfbmpkdjhhcnpaaGreat

