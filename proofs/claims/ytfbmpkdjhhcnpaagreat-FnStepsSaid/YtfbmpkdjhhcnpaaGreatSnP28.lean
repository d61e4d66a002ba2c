/- without of the program: the graph without a point's bars, and the far ends in order. Condition: a valid graph. -/
import Derived.Test.YtfbmpkdjhhcnpaaGreatSnP24
import Derived.Test.YtfbmpkdjhhcnpaaGreatSnP22
import Derived.OwnWalk
import Derived.Test.YtfbmpkdjhhcnpaaGreatSnP26
namespace Go.Proofs.YtfbmpkdjhhcnpaaGreat
open Go.RowKit
set_option maxRecDepth 100000
set_option linter.unusedVariables false
set_option linter.unusedSimpArgs false
theorem typesApart {W : World} {b b' : Nat} {e e' : TypeId} {s s' n n' : Nat} {v v' : Value} {xs xs' : List Value} (hne : e ≠ e') (h : W.ownsRow b e s v n xs) (hr : W.ownsRow b' e' s' v' n' xs') : ∀ g, v.ownBlock = some g → v'.ownBlock ≠ some g := by
 intro g hv hu
 rcases h.2 with ⟨rfl, _⟩ | ⟨g1, cap, cur, rfl, _, hg, _⟩
 ·simp [Value.ownBlock] at hv
 ·rcases hr.2 with ⟨rfl, _⟩ | ⟨g2, cap2, cur2, rfl, _, hg2, _⟩
  ·simp [Value.ownBlock] at hu
  ·simp [Value.ownBlock] at hv hu
   subst hv
   subst hu
   rw [hg] at hg2
   simp at hg2
   exact hne hg2.2
def RetWot (W : World) (p : Int) (dl : List BarT) (nl : List Int) (e : Ending) (w' : World) : Prop :=
 ∃ a c an cn, e = .returned (.tuple #[.agg #[.int .i64 p, .slice a dl.length c], .slice an nl.length cn]) ∧ OwnBars w' W.heap.size (.slice a dl.length c) dl ∧ OwnInts w' W.heap.size (.slice an nl.length cn) nl ∧ Below W.heap.size W w'
structure WotS (W w : World) (p : Int) (a : Option Addr) (n cap : Nat) (vb o : Value) (out : List BarT) (near : List Int) : Prop where
 b : Below W.heap.size W w
 bg : BoxGr w W.heap.size p a n cap
 rz : Zer2 w (W.heap.size + 1)
 og : OutG (W.heap.size + 1 + 1) w (W.heap.size + 1 + 1) p vb out
 nr : OwnInts w (W.heap.size + 3) o near
 sz : W.heap.size + 3 ≤ w.heap.size
theorem WotS.below {W w w' : World} {p : Int} {a : Option Addr} {n cap : Nat} {vb o : Value} {out : List BarT} {near : List Int} (h : WotS W w p a n cap vb o out near) (hb : Below w.heap.size w w') : WotS W w' p a n cap vb o out near :=
 ⟨h.b.step hb, h.bg.below hb, h.rz.below hb, h.og.below hb, h.nr.below hb, Nat.le_trans h.sz hb.size⟩
theorem WotS.app {W w w' : World} {p : Int} {a : Option Addr} {n cap : Nat} {vb v' o : Value} {out out' : List BarT} {near : List Int} (h : WotS W w p a n cap vb o out near) (ho : OwnBars w' (W.heap.size + 1 + 1) v' out') (hk : Kept (fun k => some k = vb.ownBlock) w w') (ha : v'.ownBlock = vb.ownBlock ∨ ∀ b, v'.ownBlock = some b → w.heap.size ≤ b) : WotS W (w'.setCell ⟨W.heap.size + 1 + 1, 1, none⟩ v') p a n cap v' o out' near := by
 have hs := h.sz
 have nlow : ∀ g, g < W.heap.size + 1 + 1 → ¬ some g = vb.ownBlock := fun g hg e => by have := (h.og.ob.lt g e.symm).1; omega
 have ks : Kept (fun k => k = W.heap.size + 1 + 1) w' (w'.setCell ⟨W.heap.size + 1 + 1, 1, none⟩ v') := setKept
 have kw := hk.size
 have h1 : OwnInts w' (W.heap.size + 3) o near := hk.ownsRow h.nr fun k h1 h2 => typesApart (by decide) h.nr h.og.ob k h1 h2.symm
 exact ⟨(h.b.trans (hk.below h.b.size fun g hg e => nlow g (by omega) e)).setCell (p := ⟨W.heap.size + 1 + 1, 1, none⟩) (by show W.heap.size ≤ W.heap.size + 1 + 1; omega) v', (h.bg.kept hk (nlow _ (by omega))).kept ks (by omega), (h.rz.kept hk (nlow _ (by omega))).kept ks (by omega), h.og.app ho hk ha, ks.ownsRow h1 (fun k h2 h3 => by have := (World.ownsRow.lt h1 k h2).1; omega), Nat.le_trans (Nat.le_trans h.sz hk.size) ks.size⟩
theorem WotS.near {W w w' : World} {p : Int} {a : Option Addr} {n cap : Nat} {vb o o' : Value} {out : List BarT} {near near' : List Int} (h : WotS W w p a n cap vb o out near) (ho : OwnInts w' (W.heap.size + 3) o' near') (hk : Kept (fun k => some k = o.ownBlock) w w') : WotS W w' p a n cap vb o' out near' := by
 have hs := h.sz
 have nlow : ∀ g, g < W.heap.size + 3 → ¬ some g = o.ownBlock := fun g hg e => by have := (World.ownsRow.lt h.nr g e.symm).1; omega
 exact ⟨h.b.trans (hk.below h.b.size fun g hg e => nlow g (by omega) e), h.bg.kept hk (nlow _ (by omega)), h.rz.kept hk (nlow _ (by omega)), ⟨(hk.cell h.og.hi (nlow _ (by omega))).trans h.og.c0, (hk.cell h.og.hi (nlow _ (by omega))).trans h.og.c1, (hk.frozen h.og.hi (nlow _ (by omega))).trans h.og.f1, hk.ownsRow h.og.ob (fun k h1 h2 => typesApart (by decide) h.og.ob h.nr k h1 h2.symm), h.og.ne, h.og.lo, Nat.lt_of_lt_of_le h.og.hi hk.size⟩, ho, Nat.le_trans h.sz hk.size⟩
theorem othB_has {x1 x2 v : Int} (h : hasV v (x1, x2) = true) : othB (x1, x2) v = x1 + x2 - v := by
 unfold hasV at h
 unfold othB
 simp only [Bool.or_eq_true, beq_iff_eq] at h
 split
 ·rename_i h1; dsimp only at h1 ⊢; omega
 ·rename_i h1; dsimp only at h1 ⊢; omega
theorem hasB_has (W : World) (x1 x2 v : Int) : Calls Tryz.prog 126 #[.agg #[.int .i64 x1, .int .i64 x2], .int .i64 v] W fun e w' => e = .returned (.bool (hasV v (x1, x2))) ∧ Below W.heap.size W w' := by
 have := hasB_any W x1 x2 v
 rwa [show decide (x1 = v ∨ x2 = v) = hasV v (x1, x2) by unfold hasV; by_cases h1 : x1 = v <;> by_cases h2 : x2 = v <;> simp [h1, h2]] at this
set_option maxHeartbeats 8000000 in
theorem without_at (W : World) (p : Int) (a : Option Addr) (cap : Nat) (l : List BarT) (h : BarsAt W a l.length l) (hs : l.length ≤ 1048576) (hg : isGraphB (p, l) = true) (v : Int) (hv : 0 ≤ v ∧ v ≤ 64) : Calls Tryz.prog 118 #[.agg #[.int .i64 p, .slice a l.length cap], .int .i64 v] W (RetWot W p (dropL l v) (nearL l v)) := by
 have hwd := @Wd.cells
 have HGr : Hid (IsGraph W (.agg #[.int .i64 p, .slice a l.length cap]) (p, l)) := Lib.hid ⟨a, cap, rfl, h⟩
 have H1 := Lib.hid h
 clear h
 have hsz : szGraph (p, l) ≤ 1048576 := hs
 have hsz2 : szGraph (p, l) ≤ 1099511627776 := Nat.le_trans hsz (by decide)
 have B : Below W.heap.size W (W.alloc (.cells #[.int .i64 p, .slice a l.length cap] 26)) := (Below.refl _ _).alloc (Nat.le_refl _) _
 have BG : Hid (BoxGr (W.alloc (.cells #[.int .i64 p, .slice a l.length cap] 26)) W.heap.size p a l.length cap) := Lib.hid (BoxGr.at rfl)
 have HG := Lib.hid hg
 have hll := (isGraphB_bd hg).2
 clear hg
 have b1 := belAl (W.alloc (.cells #[.int .i64 p, .slice a l.length cap] 26)) (.cells #[.int .i64 0, .slice none 0 0] 26)
 have b2 := belAl ((W.alloc (.cells #[.int .i64 p, .slice a l.length cap] 26)).alloc (.cells #[.int .i64 0, .slice none 0 0] 26)) (.cells #[.int .i64 p, .slice none 0 0] 26)
 have b3 := belAl (((W.alloc (.cells #[.int .i64 p, .slice a l.length cap] 26)).alloc (.cells #[.int .i64 0, .slice none 0 0] 26)).alloc (.cells #[.int .i64 p, .slice none 0 0] 26)) (.cells #[] 3)
 have WS : Hid (WotS W ((((W.alloc (.cells #[.int .i64 p, .slice a l.length cap] 26)).alloc (.cells #[.int .i64 0, .slice none 0 0] 26)).alloc (.cells #[.int .i64 p, .slice none 0 0] 26)).alloc (.cells #[] 3)) p a l.length cap (.slice none 0 0) (.slice (some ⟨W.heap.size + 3, 0, none⟩) 0 0) [] []) := Lib.hid (by
  have hr := Zer2.at (W.alloc (.cells #[.int .i64 p, .slice a l.length cap] 26)) 26
  rw [World.size_alloc] at hr
  have e2 : ((W.alloc (.cells #[.int .i64 p, .slice a l.length cap] 26)).alloc (.cells #[.int .i64 0, .slice none 0 0] 26)).heap.size = W.heap.size + 1 + 1 := by simp
  have e3 : (((W.alloc (.cells #[.int .i64 p, .slice a l.length cap] 26)).alloc (.cells #[.int .i64 0, .slice none 0 0] 26)).alloc (.cells #[.int .i64 p, .slice none 0 0] 26)).heap.size = W.heap.size + 3 := by simp
  have n0 := World.cell?_alloc_new ((W.alloc (.cells #[.int .i64 p, .slice a l.length cap] 26)).alloc (.cells #[.int .i64 0, .slice none 0 0] 26)) #[.int .i64 p, .slice none 0 0] 26 0
  have n1 := World.cell?_alloc_new ((W.alloc (.cells #[.int .i64 p, .slice a l.length cap] 26)).alloc (.cells #[.int .i64 0, .slice none 0 0] 26)) #[.int .i64 p, .slice none 0 0] 26 1
  have n2 := World.frozen?_alloc_new ((W.alloc (.cells #[.int .i64 p, .slice a l.length cap] 26)).alloc (.cells #[.int .i64 0, .slice none 0 0] 26)) #[.int .i64 p, .slice none 0 0] 26 1
  rw [e2] at n0 n1 n2
  have hO := OwnInts.made (((W.alloc (.cells #[.int .i64 p, .slice a l.length cap] 26)).alloc (.cells #[.int .i64 0, .slice none 0 0] 26)).alloc (.cells #[.int .i64 p, .slice none 0 0] 26)) (W.heap.size + 3) (by simp)
  rw [e3] at hO
  have OG : OutG (W.heap.size + 1 + 1) (((W.alloc (.cells #[.int .i64 p, .slice a l.length cap] 26)).alloc (.cells #[.int .i64 0, .slice none 0 0] 26)).alloc (.cells #[.int .i64 p, .slice none 0 0] 26)) (W.heap.size + 1 + 1) p (.slice none 0 0) [] := ⟨by simpa using n0, by simpa using n1, by simpa using n2, OwnBars.nil _ _, by simp [Value.ownBlock], Nat.le_refl _, by simp⟩
  exact ⟨((B.step b1).step b2).step b3, ((BG.out.below b1).below b2).below b3, (hr.below b2).below b3, OG.below b3, hO, by simp⟩)
 clear b1 b2 b3
 go_enter Tryz.func118, Tryz.ntmps118
 obtain ⟨zBG, fBG0, fBG1⟩ := BG.out
 go_wp2_with fail
 clear zBG fBG0 fBG1
 clear BG
 generalize ((((W.alloc (.cells #[.int .i64 p, .slice a l.length cap] 26)).alloc (.cells #[.int .i64 0, .slice none 0 0] 26)).alloc (.cells #[.int .i64 p, .slice none 0 0] 26)).alloc (.cells #[] 3)) = u at *
 clear B
 go_loopw [7, 17] (fun o i w9 => ∃ (k : Nat) (vb : Value), k ≤ l.length ∧ i = .int .i64 k ∧ WotS W w9 p a l.length cap vb o (dropT l v k) (nearT l v k)) (fun _ i _ => l.length - (intOf i).toNat)
 case atStart => exact ⟨0, _, Nat.zero_le _, rfl, WS.out⟩
 case round =>
  clear WS
  obtain ⟨k, vb, hk, rfl, hws⟩ := hrel
  have WS := Lib.hid hws
  clear hws
  have hlk := dropT_len l v k
  have hlk2 := nearT_len l v k
  by_cases hlt : k < l.length
  ·obtain ⟨bb, off, ⟨x1, x2⟩, rfl, hbl, hx, hc0, hc1⟩ := (H1.out.below WS.out.b).2 k hlt
   dsimp only at hc0 hc1
   have hr := isGraphB_bar HG.out hx
   dsimp only at hr
   have HX := Lib.hid hx
   clear hx
   have hki : (k : Int) < (l.length : Int) := by omega
   have hk0 : (0 : Int) ≤ (k : Int) := by omega
   have bpl := belAl wr (.cells #[.int .i64 x1, .int .i64 x2] 70)
   have p0 : (wr.alloc (.cells #[.int .i64 x1, .int .i64 x2] 70)).cell? ⟨wr.heap.size, 0, none⟩ = some (.int .i64 x1) := by simp [World.cell?_alloc_new]
   have p1 : (wr.alloc (.cells #[.int .i64 x1, .int .i64 x2] 70)).cell? ⟨wr.heap.size, 1, none⟩ = some (.int .i64 x2) := by simp [World.cell?_alloc_new]
   have pz : wr.heap.size < (wr.alloc (.cells #[.int .i64 x1, .int .i64 x2] 70)).heap.size := by simp
   go_upto_region 6 with (fail)
   clear hc0 hc1
   replace WS := Lib.hid (WS.out.below bpl)
   generalize (wr.alloc (.cells #[.int .i64 x1, .int .i64 x2] 70)) = w1 at *
   clear bpl
   have HCH := Lib.hid fun w => hasB_has w x1 x2 v
   cases hin : hasV v (x1, x2)
   ·have HS := Lib.hid (dropT_yes HX.out hin)
    have HN := Lib.hid (nearT_no HX.out hin)
    rw [hin] at HCH
    clear hin
    obtain ⟨ab, cb, rfl, hib⟩ := WS.out.og.ob.form
    clear hib
    go_wp2_with fail
    refine (HCH.out _).mono ?_
    rintro e w4 ⟨rfl, b4⟩
    replace p0 := ((bcell b4).1 _ _ pz).trans p0
    replace p1 := ((bcell b4).1 _ _ pz).trans p1
    have pz4 := Nat.lt_of_lt_of_le pz b4.size
    replace WS := Lib.hid (WS.out.below b4)
    clear b4
    have o1 := WS.out.og.c1
    have o2 := WS.out.og.f1
    have oz := WS.out.og.hi
    have hz3 := WS.out.sz
    have hol2 : (dropT l v k).length < 1099511627776 := by omega
    go_wp2_with (at_builtin; go_loud (refine appBar1At rfl (.tmp 31) (.tmp 33) rfl rfl WS.out.og.ob x1 x2 rfl hol2 (by omega) ?_); intro v5 w5 h5 k5 a5; go_loud (obtain ⟨av, cv, rfl, hiv⟩ := h5.form; clear hiv; have q1 := (k5.cell oz (o := 1) (fun e => WS.out.og.ne e.symm)).trans WS.out.og.c1; have q2 := (k5.frozen oz (o := 1) (fun e => WS.out.og.ne e.symm)).trans WS.out.og.f1; have q3 := Nat.lt_of_lt_of_le oz k5.size; have WS5 := Lib.hid (WS.out.app h5 k5 a5)))
    go_roundw
    case rel =>
     have h9 := WS5.out
     rw [show (dropT l v k ++ [(x1, x2)]).length = (dropT l v k).length + 1 by simp] at h9
     exact ⟨k + 1, _, by omega, by go_num, by rw [HS.out, HN.out]; exact h9⟩
    case measure => simp [intOf]; omega
   ·have HS := Lib.hid (dropT_no HX.out hin)
    have HN := Lib.hid (nearT_yes HX.out hin)
    dsimp only at HN
    have HOA := Lib.hid fun w => other_any x1 x2 v w
    rw [othB_has hin] at HOA
    rw [hin] at HCH
    clear hin
    obtain ⟨r, hr9⟩ : ∃ r, x1 + x2 - v = r := ⟨_, rfl⟩
    rw [hr9] at HN HOA
    clear hr9
    go_wp2_with fail
    refine (HCH.out _).mono ?_
    rintro e w4 ⟨rfl, b4⟩
    replace p0 := ((bcell b4).1 _ _ pz).trans p0
    replace p1 := ((bcell b4).1 _ _ pz).trans p1
    have pz4 := Nat.lt_of_lt_of_le pz b4.size
    replace WS := Lib.hid (WS.out.below b4)
    clear b4
    go_wp2_with fail
    refine (HOA.out _).mono ?_
    rintro e w6 ⟨rfl, b6⟩
    replace WS := Lib.hid (WS.out.below b6)
    clear b6 p0 p1
    have hz3 := WS.out.sz
    go_wp2_with (at_builtin; go_loud (refine app1At rfl (.tmp 24) (.tmp 28) rfl rfl WS.out.nr r rfl (by omega) (by omega) ?_); intro v5 w5 h5 k5 a5)
    go_roundw
    case rel => exact ⟨k + 1, vb, by omega, by go_num, by rw [HS.out, HN.out]; exact WS.out.near h5 k5⟩
    case measure => simp [intOf]; omega
  ·obtain rfl : k = l.length := by omega
   have HSR := Lib.hid (srt_near v HG.out)
   rw [dropT_all, nearT_all] at WS
   obtain ⟨ab, cb, rfl, hib⟩ := WS.out.og.ob.form
   clear hib hlk hlk2 hk hlt
   have hnl : (nearL l v).length ≤ 24 := by have := near_drop l v; omega
   go_wp2_with fail
   refine (sort_own wr (W.heap.size + 3) _ (nearL l v) WS.out.nr (by omega)).mono ?_
   rintro e w7 ⟨rfl, h7, k7⟩
   rw [HSR.out] at h7
   have W7 := Lib.hid (WS.out.near h7 k7)
   clear h7 k7 WS HSR
   obtain ⟨an, cn, rfl, hin⟩ := W7.out.nr.form
   clear hin
   have g0 := W7.out.og.c0
   have g1 := W7.out.og.c1
   have g3 := W7.out.og.hi
   obtain ⟨⟨z1, z2, z3, c0, c1⟩, ⟨f0, f1⟩, gz⟩ := W7.out.rz
   have HLD := Lib.hid (laid2 (p := p) (g := W.heap.size + 1) W7.out.og.ob (by omega) (by omega) (by omega) W7.out.b)
   have HNR : Hid (∀ u v', OwnInts ((w7.setCell ⟨W.heap.size + 1, 0, none⟩ u).setCell ⟨W.heap.size + 1, 1, none⟩ v') W.heap.size (.slice an (nearL l v).length cn) (nearL l v)) := Lib.hid fun u v' => ownsRow_base (ownsRow_setCell_below (ownsRow_setCell_below W7.out.nr (by show W.heap.size + 1 < W.heap.size + 3; omega) _) (by show W.heap.size + 1 < W.heap.size + 3; omega) _) (by omega)
   clear hnl
   go_wp2_with fail
   refine bodyPost_ret (v := .tuple #[.agg #[.int .i64 p, .slice ab (dropL l v).length cb], .slice an (nearL l v).length cn]) (by simp [results, Tryz.results118, go_sem, gz, c0, c1]) rfl ?_
   refine ⟨ab, cb, an, cn, rfl, ?_, HNR.out _ _, HLD.out.2⟩
   obtain ⟨vb9, ⟨a9, c9, e9, e8⟩, ho⟩ := HLD.out.1
   simp at e8
   obtain ⟨rfl, rfl⟩ := e8
   rw [e9] at ho
   exact ho
end Go.Proofs.YtfbmpkdjhhcnpaaGreat

namespace Go.Proofs.YtfbmpkdjhhcnpaaGreat
open Go Go.RowKit
set_option linter.unusedSimpArgs false
set_option linter.unusedVariables false
section
variable {P : Program} {ops : Array Oper} {Q : Exit → Act → World → Prop} {md : Region.Mode} {S : World → Prop} {L : Nat}
theorem wpAnyZ_firstAny {i : Nat} {oi : Oper} {v : Value} (hi : ops[i]? = some oi) (hsel : ∀ (j : Nat) (o : Oper) cs b, ops[j]? = some o → o.op ≠ .select cs b)
  (hQ : ∀ c a w, Q (.panic c) (a.put oi.dst v) w → Q (.panic c) a w) (hiL : i ≠ L) : ∀ (n : Nat) (listed : Array Bool) (a : Act) (w : World),
   (∀ j oj, ops[j]? = some oj → j ≠ i → listed.getD j true = false → (∀ e ∈ oj.after, Region.binds md e = true → e.on ≠ i) → oi.apart ops oj = true) →
   i ∈ Region.ready md ops listed → YieldsIf P ops (fun _ => True) oi v a → (listed.getD L false = true ∨ S w) →
   wpAnyZ P md ops Q S L n (listed.setIfInBounds i true) (a.put oi.dst v) w → wpAnyZ P md ops Q S L (n + 1) listed a w := by
 have drop : ∀ (l : Array Bool), (l.setIfInBounds i true).getD L false = l.getD L false := fun l => getD_set_ne false hiL
 intro n
 induction n with
 | zero =>
  intro listed a w _ hr hy hS H
  refine ⟨fun h => absurd hr (by rw [h]; simp), fun j hj => ?_⟩
  rcases Nat.decEq j i with hji | hji
  ·have := ready_mono hj hji
   rw [H.1] at this
   cases this
  ·subst hji
   refine hy.wpOp hi trivial ⟨?_, H⟩
   rw [drop]; exact hS
 | succ n ih =>
  intro listed a w hfree hr hy hS H
  refine ⟨fun h => absurd hr (by rw [h]; simp), fun j hj => ?_⟩
  rcases Nat.decEq j i with hji | hji
  ·obtain ⟨hjun, oj, hoj, hall⟩ := mem_ready.1 hj
   have hno : ∀ e ∈ oj.after, Region.binds md e = true → e.on ≠ i := fun e he hb hon => by
    have h1 := hall e he hb
    rw [hon] at h1
    exact unl_not (mem_ready.1 hr).1 h1
   refine wpOp_mono (fun b u h3 => ?_) (wpOp_putIf hoj (hfree j oj hoj hji hjun hno) (fun cs b => hsel i oi cs b hi) (fun cs b => hsel j oj cs b hoj) hQ hy (H.2 j (ready_mono hj hji)))
   obtain ⟨hy', hz, hrest⟩ := h3
   have hz' : (listed.setIfInBounds j true).getD L false = true ∨ S u := by
    rcases hz with hz | hz
    ·left
     rw [Array.setIfInBounds_comm _ _ (Ne.symm hji), drop] at hz
     exact hz
    ·exact .inr hz
   refine ⟨hz', ih (listed.setIfInBounds j true) b u ?_ (ready_mono hr (Ne.symm hji)) hy' hz' ?_⟩
   ·intro k ok hk hki hun hnk
    refine hfree k ok hk hki ?_ hnk
    rcases Nat.decEq j k with hjk | hjk
    ·rw [getD_set_ne true hjk] at hun; exact hun
    ·subst hjk; exact hjun
   ·rw [Array.setIfInBounds_comm _ _ hji]; exact hrest
  ·subst hji
   refine hy.wpOp hi trivial ⟨?_, H⟩
   rw [drop]; exact hS
theorem wpAnyZ_takeAny {i : Nat} {oi : Oper} {v : Value} {n : Nat} {listed : Array Bool} {a : Act} {w : World} (hi : ops[i]? = some oi)
  (hs : Region.noSelect ops = true) (hf : Region.free md ops listed i = true) (hr : (Region.ready md ops listed).contains i = true) (hiL : i ≠ L)
  (hQ : ∀ c a w, Q (.panic c) (a.put oi.dst v) w → Q (.panic c) a w) (hS : S w) (hwant : Region.wanted oi (yielded ops a.tmps) = true) (hy : ∀ u, (execOp a.eval oi).run P u = .ok (.value v) u)
  (h : wpAnyZ P md ops Q S L n (listed.setIfInBounds i true) (a.put oi.dst v) w) : wpAnyZ P md ops Q S L (n + 1) listed a w :=
 wpAnyZ_firstAny hi (Region.noSelect_spec hs) hQ hiL n listed a w (Region.free_spec hi hf) (by simpa using hr) (.inl ⟨hwant, fun u _ => hy u⟩) (.inr hS) h
end
end Go.Proofs.YtfbmpkdjhhcnpaaGreat

