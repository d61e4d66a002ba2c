/- PlaneMotions of the program and of the reference. No condition but sizes. -/
import Derived.Test.YtkjoeogoebpkjaaApp4
import Derived.Test.YtkjoeogoebpkjaaRig2
import Derived.Test.YtkjoeogoebpkjaaNulM
import Derived.Deep.RegionHeld3
import Derived.Deep.RegionLaw
namespace Go.Proofs.Ytkjoeogoebpkjaa
open Go.RowKit Gr
set_option maxRecDepth 100000
set_option linter.unusedVariables false
set_option linter.unusedSimpArgs false

def plX (q : List PlaceT) : List Int := q.flatMap fun _ => [1, 0]
def plY (q : List PlaceT) : List Int := q.flatMap fun _ => [0, 1]
def plT (q : List PlaceT) : List Int := q.flatMap fun x => [-x.2, x.1]
def plR (q : List PlaceT) : List (List Int) := [plX q, plY q, plT q]
def plmL (f : FwT) : List (List Int) := if isFwB f = true then plR f.2.2 else []
theorem plR_len (q : List PlaceT) : (plX q).length = 2 * q.length ∧ (plY q).length = 2 * q.length ∧ (plT q).length = 2 * q.length := by
  induction q with
  | nil => decide
  | cons x q ih =>
    obtain ⟨h1, h2, h3⟩ := ih
    simp only [plX, plY, plT, List.flatMap_cons, List.length_append, List.length_cons, List.length_nil] at h1 h2 h3 ⊢
    omega
theorem plX_succ {q : List PlaceT} {k : Nat} {x : PlaceT} (h : q[k]? = some x) : plX (q.take (k + 1)) = plX (q.take k) ++ [1, 0] := by rw [take_succ_of h]; simp [plX]
theorem plY_succ {q : List PlaceT} {k : Nat} {x : PlaceT} (h : q[k]? = some x) : plY (q.take (k + 1)) = plY (q.take k) ++ [0, 1] := by rw [take_succ_of h]; simp [plY]
theorem plT_succ {q : List PlaceT} {k : Nat} {x : PlaceT} (h : q[k]? = some x) : plT (q.take (k + 1)) = plT (q.take k) ++ [-x.2, x.1] := by rw [take_succ_of h]; simp [plT]
theorem plR_sz (f : FwT) : szIntss (plmL f) ≤ 1048576 := by
  obtain ⟨p, l, q⟩ := f
  unfold plmL
  split
  · rename_i h
    have := plR_len q
    have h3 := (isFw_facts h).2.1
    have h1 := (isFw_facts h).1
    unfold szIntss
    show 3 + sumLen (plR q) ≤ _
    simp only [plR, sumLen, List.map_cons, List.map_nil, List.sum_cons, List.sum_nil]
    omega
  · decide

theorem IRows.app {W W' : World} {base : Nat} {vs : List Value} {ll : List (List Int)} (h : IRows W base vs ll) {k : Nat} {v u : Value} {r : List Int} (hv : vs[k]? = some v) (hk : Kept (fun b => some b = v.ownBlock) W W') (ho : OwnInts W' base u r)
    (hfresh : u.ownBlock = v.ownBlock ∨ ∀ b, u.ownBlock = some b → W.heap.size ≤ b) : IRows W' base (vs.set k u) (ll.set k r) :=
  h.put hv hk ho fun j q hq hj b h1 h2 => by
    rcases hfresh with hf | hf
    · rw [hf] at h2
      exact h.ne hq hv hj b h1 h2
    · have := hf b h2
      have := (h.lt q (List.mem_of_getElem? hq) b h1).2
      omega
theorem rows3 (w : World) : IRows (((w.alloc (.cells #[] 3)).alloc (.cells #[] 3)).alloc (.cells #[] 3)) w.heap.size
    [.slice (some ⟨w.heap.size, 0, none⟩) 0 0, .slice (some ⟨w.heap.size + 1, 0, none⟩) 0 0, .slice (some ⟨w.heap.size + 1 + 1, 0, none⟩) 0 0] [[], [], []] := by
  have b := fun (w : World) => (Below.refl w.heap.size w).alloc (Nat.le_refl _) (.cells #[] 3)
  have h1 : OwnInts (w.alloc (.cells #[] 3)) w.heap.size (.slice (some ⟨w.heap.size, 0, none⟩) 0 0) [] := OwnInts.made w _ (Nat.le_refl _)
  have h2 := OwnInts.made (w.alloc (.cells #[] 3)) w.heap.size (by simp)
  have h3 := OwnInts.made ((w.alloc (.cells #[] 3)).alloc (.cells #[] 3)) w.heap.size (by simp; omega)
  simp only [World.size_alloc] at h2 h3
  have r1 := IRows.own1 ((h1.below (b _)).below (b _))
  have r2 := r1.snoc (h2.below (b _)) (fun u hu => by simp at hu; subst hu; intro k e1 e2; simp [Value.ownBlock] at e1 e2; omega)
  have r3 := r2.snoc h3 (fun u hu => by simp at hu; rcases hu with rfl | rfl <;> (intro k e1 e2; simp [Value.ownBlock] at e1 e2; omega))
  exact r3
theorem MatO.made {w : World} {base n : Nat} {vs : List Value} {ll : List (List Int)} (h : IRows w base vs ll) (hn : vs.length = n) (hb : base ≤ w.heap.size) (h1 : n ≤ 1000) : MatO (w.alloc (.cells vs.toArray 33)) base w.heap.size n n vs ll :=
  ⟨⟨by rw [hn, Nat.mul_one], .inr ⟨w.heap.size, n, vs.toArray, rfl, hb, heap_alloc_new w _, Nat.le_refl _, by unfold maxLen; omega, by simp [hn], by simp [← hn]⟩⟩, h.below ((Below.refl _ _).alloc (Nat.le_refl _) _)⟩
theorem MatO.cel {W : World} {base g n cap : Nat} {vs : List Value} {ll : List (List Int)} (h : MatO W base g n cap vs ll) {k : Nat} (hk : k < n) : ∃ v, vs[k]? = some v ∧ W.cell? ⟨g, k, none⟩ = some v ∧ W.frozen? ⟨g, k, none⟩ = false := by
  have h1 := h.len.1
  have h2 := World.ownsRow.cellAt h.out k (by omega)
  rw [List.getElem?_eq_getElem (show k < vs.length by omega)] at h2
  exact ⟨_, List.getElem?_eq_getElem (show k < vs.length by omega), h2, h.froz k⟩

set_option maxHeartbeats 4000000 in
theorem specPlm_at (W : World) (p : Int) (a : Option Addr) (cap : Nat) (l : List BarT) (c : Option Addr) (capc : Nat) (q : List PlaceT) (h : BarsAt W a l.length l) (hq : PlacesAt W c q.length q) (hs : l.length + q.length ≤ 1048576) :
    Calls Try.prog 44 #[.agg #[.int .i64 p, .slice a l.length cap, .slice c q.length capc]] W (RetIntss W (plmL (p, l, q))) := by
  have hwd := @Wd.cells
  have HFw : Hid (IsFw W (.agg #[.int .i64 p, .slice a l.length cap, .slice c q.length capc]) (p, l, q)) := Lib.hid ⟨a, cap, c, capc, rfl, h, hq⟩
  have H1 := Lib.hid h
  have H2 := Lib.hid hq
  clear h hq
  have hsz : szFw (p, l, q) ≤ 1048576 := hs
  have hs1 : l.length ≤ 1048576 := by omega
  have hs2 : q.length ≤ 1048576 := by omega
  have B : Below W.heap.size W (W.alloc (.cells #[.int .i64 p, .slice a l.length cap, .slice c q.length capc] 42)) := (Below.refl _ _).alloc (Nat.le_refl _) _
  have BX : Hid (BoxFw (W.alloc (.cells #[.int .i64 p, .slice a l.length cap, .slice c q.length capc] 42)) W.heap.size p a l.length cap c q.length capc) := Lib.hid (BoxFw.at rfl)
  have hba : Below (W.alloc (.cells #[.int .i64 p, .slice a l.length cap, .slice c q.length capc] 42)).heap.size (W.alloc (.cells #[.int .i64 p, .slice a l.length cap, .slice c q.length capc] 42)) ((W.alloc (.cells #[.int .i64 p, .slice a l.length cap, .slice c q.length capc] 42)).alloc (.cells #[] 33)) := (Below.refl _ _).alloc (Nat.le_refl _) _
  have HO0 : Hid (OwnIntss ((W.alloc (.cells #[.int .i64 p, .slice a l.length cap, .slice c q.length capc] 42)).alloc (.cells #[] 33)) (W.heap.size + 1) (.slice (some ⟨W.heap.size + 1, 0, none⟩) 0 0) []) := Lib.hid (by have h9 := made_intss (W.alloc (.cells #[.int .i64 p, .slice a l.length cap, .slice c q.length capc] 42)); simpa using h9)
  replace B := B.step hba
  replace BX := Lib.hid (BX.out.below hba)
  clear hba
  cases hf : isFwB (p, l, q)
  · have HE := Lib.hid (show plmL (p, l, q) = [] by unfold plmL; rw [hf]; rfl)
    go_enter Try.func44, Try.ntmps44
    go_wp2_with fail
    generalize ((W.alloc (.cells #[.int .i64 p, .slice a l.length cap, .slice c q.length capc] 42)).alloc (.cells #[] 33)) = u at *
    refine (spec_IsFramework _ _ (p, l, q) (HFw.out.below B) hsz).mono ?_
    rintro e w1 ⟨rfl, b⟩
    have HO1 := Lib.hid (HO0.out.below b)
    replace B := B.step b
    rw [hf]
    go_wp2_with fail
    go_ret
    exact ⟨_, rfl, by rw [HE.out]; exact ownsRow_base' HO1.out (by omega), B⟩
  have HE := Lib.hid (show plmL (p, l, q) = plR q by unfold plmL; rw [hf]; rfl)
  obtain ⟨⟨hg1, hg2⟩, hg3, hg4, _, hg6⟩ := isFw_facts hf
  have HG6 := Lib.hid hg6
  clear hg6 hg4
  go_enter Try.func44, Try.ntmps44
  go_wp2_with fail
  generalize ((W.alloc (.cells #[.int .i64 p, .slice a l.length cap, .slice c q.length capc] 42)).alloc (.cells #[] 33)) = u at *
  refine (spec_IsFramework _ _ (p, l, q) (HFw.out.below B) hsz).mono ?_
  rintro e w1 ⟨rfl, b⟩
  have hz_w1 := b.size
  replace B := B.step b
  replace BX := Lib.hid (BX.out.below b)
  clear b
  rw [hf]
  have HR0 := Lib.hid (rows3 w1)
  have hb0 : Below w1.heap.size w1 (((w1.alloc (.cells #[] 3)).alloc (.cells #[] 3)).alloc (.cells #[] 3)) := (((Below.refl _ w1).alloc (Nat.le_refl _) _).alloc (by simp) _).alloc (by simp; omega) _
  go_wp2_with fail
  generalize ((w1.alloc (.cells #[] 3)).alloc (.cells #[] 3)).alloc (.cells #[] 3) = w2 at *
  go_loopw [4, 5, 6, 7] (fun x y t i w9 => ∃ k : Nat, k ≤ q.length ∧ i = .int .i64 k ∧ IRows w9 w1.heap.size [x, y, t] (plR (q.take k)) ∧ Below w1.heap.size w1 w9) (fun _ _ _ i _ => q.length - (intOf i).toNat)
  case atStart => exact ⟨0, Nat.zero_le _, rfl, HR0.out, hb0⟩
  case round =>
    clear hb0 HR0
    obtain ⟨k, hk, rfl, hr, hb⟩ := hrel
    have HR := Lib.hid hr
    clear hr
    have hbz := hb.size
    have BX1 := Lib.hid (BX.out.below hb)
    obtain ⟨zBX, fBX0, fBX1, fBX2⟩ := BX1.out
    have hlen := plR_len (q.take k)
    rw [List.length_take, Nat.min_eq_left hk] at hlen
    obtain ⟨hl1, hl2, hl3⟩ := hlen
    by_cases hlt : k < q.length
    · go_upto_region 11 with (at_builtin; refine app2At rfl (.tmp 23) (.tmp 24) rfl rfl (HR.out.own 0 _ _ rfl rfl) 1 0 rfl (by omega) hbz ?_; intro v5 w5 h5 k5 a5)
      clear zBX fBX0 fBX1 fBX2
      have HR5 : Hid (IRows w5 w1.heap.size _ _) := Lib.hid (HR.out.app (k := 0) rfl k5 h5 a5)
      have hb5 := hb.trans (k5.setOwn (HR.out.own 0 _ _ rfl rfl) (Nat.le_refl _) hbz)
      have hbz5 := hb5.size
      clear h5 k5 a5
      go_upto_region 12 with (at_builtin; refine app2At rfl (.tmp 26) (.tmp 27) rfl rfl (HR5.out.own 1 _ _ rfl rfl) 0 1 rfl (by omega) hbz5 ?_; intro v6 w6 h6 k6 a6)
      have HR6 : Hid (IRows w6 w1.heap.size _ _) := Lib.hid (HR5.out.app (k := 1) rfl k6 h6 a6)
      have hb6 := hb5.trans (k6.setOwn (HR5.out.own 1 _ _ rfl rfl) (Nat.le_refl _) hbz5)
      have hbz6 := hb6.size
      clear h6 k6 a6
      have BX6 := Lib.hid (BX.out.below hb6)
      obtain ⟨zBX, fBX0, fBX1, fBX2⟩ := BX6.out
      obtain ⟨bq, oq, ⟨y1, y2⟩, rfl, hbq, hy, hya, hyb⟩ := (H2.out.below (B.step hb6)).2 k hlt
      dsimp only at hya hyb
      have hyy := HG6.out k y1 y2 hy
      obtain ⟨⟨n1, n2⟩, n3, n4⟩ := hyy
      have HY := Lib.hid hy
      clear hy
      have hkl : (k : Int) < (q.length : Int) := by omega
      have bu : Below w6.heap.size w6 (w6.alloc (.cells #[.int .i64 (-y2), .int .i64 y1] 3)).drew := ((Below.refl _ w6).alloc (Nat.le_refl _) _).drew
      have d1 : w6.drew.cell? ⟨W.heap.size, 2, none⟩ = _ := fBX2
      have d2 : w6.drew.cell? ⟨bq, oq + k * 2, none⟩ = _ := hya
      have d3 : w6.drew.cell? ⟨bq, oq + k * 2 + 1, none⟩ = _ := hyb
      have e1 : W.heap.size < w6.drew.heap.size := zBX
      have e2 : bq < w6.drew.heap.size := hbq
      have s0 : (w6.alloc (.cells #[.int .i64 (-y2), .int .i64 y1] 3)).drew.cell? ⟨w6.heap.size, 0, none⟩ = some (.int .i64 (-y2)) := by show (w6.alloc _).cell? _ = _; simp [World.cell?_alloc_new]
      have s1 : (w6.alloc (.cells #[.int .i64 (-y2), .int .i64 y1] 3)).drew.cell? ⟨w6.heap.size, 1, none⟩ = some (.int .i64 y1) := by show (w6.alloc _).cell? _ = _; simp [World.cell?_alloc_new]
      have HR7 : Hid (IRows _ w1.heap.size _ _) := Lib.hid (HR6.out.below bu)
      have hzd : w1.heap.size ≤ (w6.alloc (.cells #[.int .i64 (-y2), .int .i64 y1] 3)).drew.heap.size := by have := bu.size; omega
      have hw := IntWalk.i64_in (-y2) (by omega)
      go_region_law (first
          | (refine stepInts2 (by rfl) (.tmp 29) (.tmp 43) (by rfl) (by rfl) (HR7.out.own 2 _ _ rfl rfl) (-y2) y1 w6.heap.size (by rfl) s0 s1 (by omega) hzd ?_
             intro v7 w7 h7 k7 a7)
          | fail)
      all_goals
        have HR8 : Hid (IRows w7 w1.heap.size _ _) := Lib.hid (HR7.out.app (k := 2) rfl k7 h7 a7)
        have hb7 := (hb6.trans (bu.mono hbz6)).trans (k7.setOwn (HR7.out.own 2 _ _ rfl rfl) (Nat.le_refl _) hzd)
        clear h7 k7 a7 d1 d2 d3 s0 s1
        go_wp2_with fail
        go_roundw
        case rel =>
          refine ⟨k + 1, by omega, by go_num, ?_, hb7⟩
          have h9 := HR8.out
          unfold plR at h9 ⊢
          rw [plX_succ HY.out, plY_succ HY.out, plT_succ HY.out]
          exact h9
        case measure => simp [intOf]; omega
    · obtain rfl : k = q.length := by omega
      have hr := HR.out
      rw [List.take_length] at hr
      obtain ⟨ax, cx, rfl, _⟩ := (hr.own 0 _ _ rfl rfl).form
      obtain ⟨ay, cy, rfl, _⟩ := (hr.own 1 _ _ rfl rfl).form
      obtain ⟨at', ct, rfl, _⟩ := (hr.own 2 _ _ rfl rfl).form
      have HRE := Lib.hid hr
      clear hr
      go_wp2_with (at_builtin; refine appRowsNew (n := 3) rfl (.tmp 45) (.tmp 49) rfl (W.heap.size + 1) rfl HRE.out rfl (by decide) (by decide) rfl hbz ?_; intro v' w8 h8 b8)
      go_ret
      exact ⟨_, rfl, by rw [HE.out]; exact ownsRow_base' h8 B.size, (B.step hb).step b8⟩

end Go.Proofs.Ytkjoeogoebpkjaa
