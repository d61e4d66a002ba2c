/- What FnMotions draws: l12Draw, DrawMotionsOf, DrawFindMotion, DrawFixMotion, DrawChangeOf, DrawIsTrivialMotion of the reference. No condition but sizes. -/
import Derived.Test.YtfbmpkdjhhcnpaaMoP16
import Derived.Test.YtfbmpkdjhhcnpaaMoP36
namespace Go.Proofs.Ytfbmpkdjhhcnpaa
open Go.RowKit
set_option maxRecDepth 100000
set_option linter.unusedVariables false
set_option linter.unusedSimpArgs false
def SmV (v : List Int) : Prop := ∀ k, k < v.length → -2000000000 ≤ vN v k ∧ vN v k ≤ 2000000000
theorem SmV.of {v : List Int} (h : ∀ x ∈ v, -6 ≤ x ∧ x ≤ 6) : SmV v := fun k hk => by
  unfold vN
  rw [List.getElem?_eq_getElem hk]
  have := h _ (List.getElem_mem hk)
  dsimp only [Option.getD_some]
  omega
/-- a list of numbers that is read; its block lies from lo on -/
structure FrInts (W : World) (lo : Nat) (a : Option Addr) (v : List Int) : Prop where
  at' : IntsAt W a v.length v
  la : ∀ g off, a = some ⟨g, off, none⟩ → lo ≤ g
theorem FrInts.kept {S : Nat → Prop} {W W' : World} {lo : Nat} {a : Option Addr} {v : List Int} (h : FrInts W lo a v) (hk : Kept S W W') (hS : ∀ b, lo ≤ b → ¬ S b) : FrInts W' lo a v :=
  ⟨h.at'.kept hk fun b off e => hS b (h.la b off e), h.la⟩
theorem FrInts.below {W W' : World} {lo : Nat} {a : Option Addr} {v : List Int} (h : FrInts W lo a v) (hb : Below W.heap.size W W') : FrInts W' lo a v := h.kept (Kept.of_below (S := fun _ => False) hb) fun _ _ => id
theorem FrInts.low {W : World} {lo lo' : Nat} {a : Option Addr} {v : List Int} (h : FrInts W lo a v) (hl : lo' ≤ lo) : FrInts W lo' a v := ⟨h.at', fun g off e => Nat.le_trans hl (h.la g off e)⟩
theorem FrInts.set {W : World} {lo g i : Nat} {x : Value} {a : Option Addr} {v : List Int} (h : FrInts W lo a v) (hg : g < lo) : FrInts (W.setCell ⟨g, i, none⟩ x) lo a v :=
  h.kept (keptSet' (S := fun k => k = g) rfl) fun b hb e => by omega
theorem FrInts.is {W : World} {lo : Nat} {a : Option Addr} {v : List Int} (h : FrInts W lo a v) (c : Nat) : IsInts W (.slice a v.length c) v := ⟨a, c, rfl, h.at'⟩
theorem OwnInts.fr {W : World} {lo : Nat} {u : Value} {v : List Int} (h : OwnInts W lo u v) : ∃ a c, u = .slice a v.length c ∧ FrInts W lo a v := by
  obtain ⟨a, c, rfl, hi⟩ := h.form
  exact ⟨a, c, rfl, hi, fun g off e => (h.lt g (by subst e; rfl)).1⟩
/-- a framework and a vector that are drawn -/
def RetFv (W : World) (e : Ending) (w' : World) : Prop :=
  ∃ p a c b d bs ps va vc v, e = .returned (.tuple #[.agg #[.int .i64 p, .slice a bs.length c, .slice b ps.length d], .slice va v.length vc]) ∧ FrFw w' W.heap.size a bs b ps ∧ FrInts w' W.heap.size va v ∧ ((bs.length ≤ 24 ∧ ps.length ≤ 6) ∧ v.length ≤ 1048576 ∧ SmV v) ∧ Below W.heap.size W w'
theorem layV {W w' : World} {p : Int} {a b va : Option Addr} {c d lo : Nat} {bs : List BarT} {ps : List PlaceT} {v : List Int} (hb : Below W.heap.size W w') (ho : FrFw w' lo a bs b ps) (hv : FrInts w' lo va v) (hlo : W.heap.size < lo) :
    FrFw (((w'.setCell ⟨W.heap.size, 0, none⟩ (.int .i64 p)).setCell ⟨W.heap.size, 1, none⟩ (.slice a bs.length c)).setCell ⟨W.heap.size, 2, none⟩ (.slice b ps.length d)) W.heap.size a bs b ps ∧ FrInts (((w'.setCell ⟨W.heap.size, 0, none⟩ (.int .i64 p)).setCell ⟨W.heap.size, 1, none⟩ (.slice a bs.length c)).setCell ⟨W.heap.size, 2, none⟩ (.slice b ps.length d)) W.heap.size va v ∧ Below W.heap.size W (((w'.setCell ⟨W.heap.size, 0, none⟩ (.int .i64 p)).setCell ⟨W.heap.size, 1, none⟩ (.slice a bs.length c)).setCell ⟨W.heap.size, 2, none⟩ (.slice b ps.length d)) :=
  ⟨(((ho.set hlo).set hlo).set hlo).low (by omega), (((hv.set hlo).set hlo).set hlo).low (by omega), ((hb.setCell (p := ⟨W.heap.size, 0, none⟩) (Nat.le_refl _) _).setCell (p := ⟨W.heap.size, 1, none⟩) (Nat.le_refl _) _).setCell (p := ⟨W.heap.size, 2, none⟩) (Nat.le_refl _) _⟩
/-- all that a walk of l12Draw holds: the state of the draw, the result's box, the framework in its box -/
structure LdS (W u w : World) (g gt lo : Nat) (ca : Option Addr) (n cap : Nat) (l : List Int) (p : Int) (a : Option Addr) (c : Nat) (b : Option Addr) (d : Nat) (bs : List BarT) (ps : List PlaceT) : Prop where
  dr : Drw u w g ca n cap l
  bl : Below W.heap.size W w
  z : Zer3d w W.heap.size
  bx : BxF w gt p a bs.length c b ps.length d
  fr : FrFw w lo a bs b ps
theorem LdS.keptN {S : Nat → Prop} {W u w w' : World} {g gt lo : Nat} {ca : Option Addr} {n cap : Nat} {l : List Int} {p : Int} {a : Option Addr} {c : Nat} {b : Option Addr} {d : Nat} {bs : List BarT} {ps : List PlaceT} (h : LdS W u w g gt lo ca n cap l p a c b d bs ps) (hd : Drw u w' g ca n cap l) (hk : Kept S w w') (hg : ∀ k, S k → k = g) (hgW : W.heap.size < g) (hgt : g < gt) (hlo : g < lo) : LdS W u w' g gt lo ca n cap l p a c b d bs ps :=
  ⟨hd, h.bl.trans (hk.below h.bl.size fun k hk1 hk2 => by have := hg k hk2; omega), h.z.kept hk fun e => by have := hg _ e; omega, h.bx.kept hk fun e => by have := hg _ e; omega, h.fr.kept hk fun k hk1 hk2 => by have := hg k hk2; omega⟩
theorem LdS.below {W u w w' : World} {g gt lo : Nat} {ca : Option Addr} {n cap : Nat} {l : List Int} {p : Int} {a : Option Addr} {c : Nat} {b : Option Addr} {d : Nat} {bs : List BarT} {ps : List PlaceT} (h : LdS W u w g gt lo ca n cap l p a c b d bs ps) (hb : Below w.heap.size w w') : LdS W u w' g gt lo ca n cap l p a c b d bs ps :=
  ⟨h.dr.below hb, h.bl.step hb, h.z.kept (Kept.of_below (S := fun _ => False) hb) id, h.bx.kept (Kept.of_below (S := fun _ => False) hb) id, h.fr.below hb⟩
theorem OwnIntss.on' {w w' : World} {base g : Nat} {v : Value} {ll : List (List Int)} (h : OwnIntss w base v ll) (k : Kept (fun b => b = g) w w') (hg : g < base) : OwnIntss w' base v ll := by
  obtain ⟨vs, ho, hr⟩ := h
  exact ⟨vs, k.ownsRow ho fun b h1 h2 => by have := (World.ownsRow.lt ho b h1).1; omega, hr.kept k fun u hu b h1 h2 => by have := (hr.lt u hu b h1).1; omega⟩
/-- the rows of a list of lists, as they are read -/
structure RowsV (w : World) (lo gr : Nat) (ll : List (List Int)) (vs : List Value) : Prop where
  ge : lo ≤ gr
  lt : gr < w.heap.size
  row : ∀ k, k < ll.length → ∃ va vc r, vs[k]? = some (.slice va r.length vc) ∧ r ∈ ll ∧ w.cell? ⟨gr, k, none⟩ = some (.slice va r.length vc) ∧ FrInts w lo va r
theorem RowsV.kept {S : Nat → Prop} {w w' : World} {lo gr : Nat} {ll : List (List Int)} {vs : List Value} (h : RowsV w lo gr ll vs) (hk : Kept S w w') (hS : ∀ b, lo ≤ b → ¬ S b) : RowsV w' lo gr ll vs :=
  ⟨h.ge, Nat.lt_of_lt_of_le h.lt hk.size, fun k hkl => by
    obtain ⟨va, vc, r, h1, h2, h3, h4⟩ := h.row k hkl
    exact ⟨va, vc, r, h1, h2, (hk.cell h.lt (hS _ h.ge)).trans h3, h4.kept hk hS⟩⟩
theorem RowsV.below {w w' : World} {lo gr : Nat} {ll : List (List Int)} {vs : List Value} (h : RowsV w lo gr ll vs) (hb : Below w.heap.size w w') : RowsV w' lo gr ll vs := h.kept (Kept.of_below (S := fun _ => False) hb) fun _ _ => id
/-- the cells alone -/
def RowC (vs : List Value) (n gr : Nat) (w : World) : Prop := ∀ k u, k < n → vs[k]? = some u → w.cell? ⟨gr, k, none⟩ = some u
theorem RowsV.cells {w : World} {lo gr : Nat} {ll : List (List Int)} {vs : List Value} (h : RowsV w lo gr ll vs) : RowC vs ll.length gr w := fun k u hk hu => by
  obtain ⟨va, vc, r, h1, h2, h3, h4⟩ := h.row k hk
  rw [h1] at hu
  cases hu
  exact h3
theorem rowsAt {W : World} {base : Nat} {a : Option Addr} {cap : Nat} {ll : List (List Int)} (h : OwnIntss W base (.slice a ll.length cap) ll) (hp : 0 < ll.length) : ∃ gr vs, a = some ⟨gr, 0, none⟩ ∧ RowsV W base gr ll vs := by
  obtain ⟨vs, ho, hr⟩ := h
  have ho2 := ho
  rcases ho.2 with ⟨e, h0⟩ | ⟨g, cap, cur, e, hb, hg, hnc, hcm, hcs, htake⟩
  · omega
  · simp at e
    obtain ⟨rfl, rfl⟩ := e
    refine ⟨g, vs, rfl, (World.ownsRow.lt ho2 g rfl).1, (World.ownsRow.lt ho2 g rfl).2, fun k hk => ?_⟩
    obtain ⟨u, r, hu, hrr, hor⟩ := hr.get hk
    have hc := World.ownsRow.cellAt (w := W) (base := base) ho2 k (by omega)
    obtain ⟨ar, cr, rfl, hi⟩ := OwnInts.fr hor
    exact ⟨ar, cr, r, hu, List.mem_of_getElem? hrr, by rw [← hu, ← hc], hi⟩
theorem plmL_len3 {f : FwT} (h : 0 < (plmL f).length) : (plmL f).length = 3 := by
  unfold plmL at h ⊢
  split
  · rfl
  · rename_i hf; rw [if_neg hf] at h; exact absurd h (by decide)
theorem motL_le (f : FwT) : (motL f).length ≤ 16 := by
  by_cases h : isFwB f = true
  · have h1 := mot_cnt h
    have h2 := (isFw_facts (p := f.1) (l := f.2.1) (q := f.2.2) h).1
    have h3 : 0 ≤ frkF f := by
      unfold frkF
      rw [if_pos h]
      exact Int.natCast_nonneg _
    omega
  · unfold motL
    rw [if_neg h]
    decide
theorem mem_sum_le : ∀ (ll : List (List Int)) (r : List Int), r ∈ ll → r.length ≤ sumLen ll
  | [], r, h => by simp at h
  | x :: ll, r, h => by
    unfold sumLen
    rw [List.map_cons, List.sum_cons]
    rcases List.mem_cons.1 h with rfl | h
    · omega
    · have := mem_sum_le ll r h
      unfold sumLen at this
      omega
theorem szIntss_mem {ll : List (List Int)} {r : List Int} (h : r ∈ ll) : r.length ≤ szIntss ll := by
  have := mem_sum_le ll r h
  unfold szIntss
  omega
theorem motL_bd {f : FwT} {r : List Int} (h : r ∈ motL f) : r.length ≤ 1048576 ∧ SmV r := by
  refine ⟨?_, (mot_null h).2⟩
  have h1 := motL_sz f
  have h2 := szIntss_mem h
  omega
theorem plmL_bd {f : FwT} {r : List Int} (h : r ∈ plmL f) : r.length ≤ 1048576 ∧ SmV r := by
  refine ⟨?_, (plane_triv h).2⟩
  have h1 := plR_sz f
  have h2 := szIntss_mem h
  omega
set_option maxHeartbeats 16000000 in
theorem l12Draw_at (W : World) (ca : Option Addr) (n cap : Nat) (l : List Int) (hB : BytesAt W ca n l) (hn : n ≤ 1048576) :
    Calls Try.prog 39 #[.slice ca n cap] W (RetFv W) := by
  have ba := belAl W (.cells #[.int .i64 0, .slice none 0 0, .slice none 0 0] 29)
  have Z := Lib.hid (Zer3d.at W 29)
  have hBu := BytesAt.below hB ba
  have hzu : (W.alloc (.cells #[.int .i64 0, .slice none 0 0, .slice none 0 0] 29)).heap.size = W.heap.size + 1 := by simp
  have BA := Lib.hid ba
  clear hB ba
  go_enter Try.func39, Try.ntmps39
  go_wp2_with fail
  generalize (W.alloc (.cells #[.int .i64 0, .slice none 0 0, .slice none 0 0] 29)) = u at *
  have HN := Lib.hid (l1New_at u ca n cap l hBu hn)
  have HD : Hid (∀ (m : Int) w9 g, 1 ≤ m ∧ m ≤ 256 → Drw u w9 g ca n cap l → Calls Try.prog 45 #[.pointer (some ⟨g, 0, none⟩), .int .i64 m] w9 (RetDi u w9 g ca n cap l 0 (m - 1))) := Lib.hid fun m w9 g hm h9 => l1Below_at u w9 g ca n cap l hBu (by omega) h9 m hm
  have HA : Hid (∀ w9 g, Drw u w9 g ca n cap l → Calls Try.prog 28 #[.pointer (some ⟨g, 0, none⟩)] w9 (RetDa u w9 g ca n cap l)) := Lib.hid fun w9 g h9 => l10Any_at u w9 g ca n cap l hBu (by omega) h9
  have HV0 : Hid (∀ (m : Nat) (mi : Int) w9 g, mi = (m : Int) → m ≤ 1000 → Drw u w9 g ca n cap l → Calls Try.prog 58 #[.pointer (some ⟨g, 0, none⟩), .int .i64 mi] w9 fun e w' => ∃ v xs, e = .returned v ∧ OwnInts w' w9.heap.size v xs ∧ xs.length = m ∧ (∀ x ∈ xs, -6 ≤ x ∧ x ≤ 6) ∧ Drw u w' g ca n cap l ∧ Kept (fun b => b = g) w9 w') := Lib.hid fun m mi w9 g hmi hm h9 => by subst hmi; exact l9Vector_at u w9 g ca n cap l hBu (by omega) h9 m hm
  have hzu1 : W.heap.size < u.heap.size := by omega
  clear hBu hzu
  refine HN.out.mono ?_
  rintro e w1 ⟨g, rfl, d1⟩
  have D := Lib.hid d1
  have hz1 := d1.bel.size
  have hg1 := d1.hi
  have hg0 := d1.low
  have hgW : W.heap.size < g := by omega
  have B := Lib.hid (BA.out.step d1.bel)
  replace Z := Lib.hid (Z.out.kept (Kept.of_below (S := fun _ => False) d1.bel) id)
  have HV := Lib.hid (fun (m : Nat) (mi : Int) w9 => HV0.out m mi w9 g)
  clear d1 HN BA HV0
  go_wp2_with fail
  refine (HA.out w1 g D.out).mono ?_
  rintro e w2 ⟨p, a, c, b, d, bs, ps, rfl, fr, hsm, d2, k2⟩
  have hz2 := k2.size
  have hps := hsm.2
  have hglo : g < w1.heap.size := hg1
  obtain ⟨gt, hgt0⟩ : ∃ q, q = w2.heap.size := ⟨_, rfl⟩
  have hgt : g < gt := by omega
  have ba := belAl w2 (.cells #[.int .i64 p, .slice a bs.length c, .slice b ps.length d] 29)
  have F : Hid (LdS W u (w2.alloc (.cells #[.int .i64 p, .slice a bs.length c, .slice b ps.length d] 29)) g gt w1.heap.size ca n cap l p a c b d bs ps) := Lib.hid
    ⟨d2.below ba, (B.out.trans (k2.below B.out.size fun k h1 h2 => by omega)).step ba, (Z.out.kept k2 (by omega)).kept (Kept.of_below (S := fun _ => False) ba) id, by rw [hgt0]; exact BxF.at .., fr.below ba⟩
  clear B D Z fr d2 k2 ba HA
  go_wp2_with fail
  rw [← hgt0]
  generalize (w2.alloc (.cells #[.int .i64 p, .slice a bs.length c, .slice b ps.length d] 29)) = w3 at *
  have hgtu : u.heap.size ≤ gt := by omega
  have hgtW : W.heap.size < gt := by omega
  have hlou : u.heap.size ≤ w1.heap.size := by omega
  clear hgt0 hz2
  have hsz : szFw (p, bs, ps) ≤ 1048576 := by show bs.length + ps.length ≤ 1048576; omega
  obtain ⟨zB, cB0, cB1, cB2, fB2⟩ := F.out.bx
  go_wp2_with fail
  clear zB cB0 cB1 cB2 fB2
  refine (spec_MotionsOf w3 _ (p, bs, ps) (F.out.fr.is p c d) hsz).mono ?_
  rintro e w4 ⟨mv, rfl, mo, mb⟩
  have hz3 := F.out.dr.bel.size
  obtain ⟨w2l, hw2l⟩ : ∃ q, q = w3.heap.size := ⟨_, rfl⟩
  have hg3 := F.out.dr.hi
  have hl2 : g < w2l ∧ u.heap.size ≤ w2l ∧ W.heap.size < w2l := by omega
  obtain ⟨ml, hml0⟩ : ∃ q, q = motL (p, bs, ps) := ⟨_, rfl⟩
  have MB : Hid (∀ r, r ∈ ml → r.length ≤ 1048576 ∧ SmV r) := Lib.hid fun r hr => motL_bd (by rw [hml0] at hr; exact hr)
  have hmlen : ml.length ≤ 16 := by rw [hml0]; exact motL_le _
  rw [← hml0, ← hw2l] at mo
  replace F := Lib.hid (F.out.below mb)
  obtain ⟨ma, mc, rfl, -⟩ := mo.form
  have M := Lib.hid mo
  have hz4 := mb.size
  clear mo mb hml0 hw2l
  go_wp2_with fail
  refine (HD.out 4 w4 g (by decide) F.out.dr).mono ?_
  rintro e w5 ⟨x, hx, rfl, d5, k5⟩
  replace F := Lib.hid (F.out.keptN d5 k5 (fun _ e => e) hgW hgt hglo)
  replace M := Lib.hid (OwnIntss.on' M.out k5 (by omega))
  have hz5 := k5.size
  clear d5 k5
  cases h0 : (x == 0)
  · cases h1 : (x == 1)
    · have hno : (x == 0) = false := h0
      by_cases hml : 0 < ml.length
      · have hml2 : (0 : Int) < (ml.length : Int) := by omega
        obtain ⟨gr, rvs, hAA, rv⟩ := rowsAt M.out (by omega)
        subst hAA
        have RV := Lib.hid rv
        clear rv M
        obtain ⟨zB, cB0, cB1, cB2, fB2⟩ := F.out.bx
        go_wp2_with fail
        clear zB cB0 cB1 cB2 fB2
        have FD := Lib.hid (F.out.below (w' := w5.drew) (Below.refl _ _).drew)
        have MD := Lib.hid (RV.out.below (w' := w5.drew) (Below.refl _ _).drew)
        have s0 : w5.drew.cell? ⟨gt, 0, none⟩ = some (.int .i64 p) ∧ w5.drew.cell? ⟨gt, 1, none⟩ = some (.slice a bs.length c) ∧ w5.drew.cell? ⟨gt, 2, none⟩ = some (.slice b ps.length d) ∧ RowC rvs ml.length gr w5.drew := ⟨FD.out.bx.c0, FD.out.bx.c1, FD.out.bx.c2, MD.out.cells⟩
        refine wp_regionZ (fun w9 => w9.cell? ⟨gt, 0, none⟩ = some (.int .i64 p) ∧ w9.cell? ⟨gt, 1, none⟩ = some (.slice a bs.length c) ∧ w9.cell? ⟨gt, 2, none⟩ = some (.slice b ps.length d) ∧ RowC rvs ml.length gr w9) 9 (by kernel_rfl) ?_
        clear F RV
        generalize w5.drew = wd at *
        refine wpAnyZ_takeC (i := 0) (v := ?_) [9] rfl (by kernel_rfl) (by kernel_rfl) (by kernel_rfl) (by kernel_rfl) (by kernel_rfl) (by kernel_rfl) (fun _ _ _ h => h) (s0) (by rfl) ?_ ?_
        rotate_left
        · intro x hx; obtain ⟨u1, u2, u3, u4⟩ := hx; go_simp; try (with_reducible rfl)
        try simp only [Act.put, List.setIfInBounds_toArray, List.set_cons_zero, List.set_cons_succ, List.getElem_toArray, List.getElem_cons_zero, List.getElem_cons_succ]
        refine wpAnyZ_takeC (i := 1) (v := ?_) [9] rfl (by kernel_rfl) (by kernel_rfl) (by kernel_rfl) (by kernel_rfl) (by kernel_rfl) (by kernel_rfl) (fun _ _ _ h => h) (s0) (by rfl) ?_ ?_
        rotate_left
        · intro x hx; obtain ⟨u1, u2, u3, u4⟩ := hx; go_simp; try (with_reducible rfl)
        try simp only [Act.put, List.setIfInBounds_toArray, List.set_cons_zero, List.set_cons_succ, List.getElem_toArray, List.getElem_cons_zero, List.getElem_cons_succ]
        refine wpAnyZ_takeC (i := 2) (v := ?_) [9] rfl (by kernel_rfl) (by kernel_rfl) (by kernel_rfl) (by kernel_rfl) (by kernel_rfl) (by kernel_rfl) (fun _ _ _ h => h) (s0) (by rfl) ?_ ?_
        rotate_left
        · intro x hx; obtain ⟨u1, u2, u3, u4⟩ := hx; go_simp; try (with_reducible rfl)
        try simp only [Act.put, List.setIfInBounds_toArray, List.set_cons_zero, List.set_cons_succ, List.getElem_toArray, List.getElem_cons_zero, List.getElem_cons_succ]
        refine wpAnyZ_takeC (i := 3) (v := ?_) [9] rfl (by kernel_rfl) (by kernel_rfl) (by kernel_rfl) (by kernel_rfl) (by kernel_rfl) (by kernel_rfl) (fun _ _ _ h => h) (s0) (by rfl) ?_ ?_
        rotate_left
        · intro x hx; obtain ⟨u1, u2, u3, u4⟩ := hx; go_simp; try (with_reducible rfl)
        try simp only [Act.put, List.setIfInBounds_toArray, List.set_cons_zero, List.set_cons_succ, List.getElem_toArray, List.getElem_cons_zero, List.getElem_cons_succ]
        refine wpAnyZ_takeC (i := 4) (v := ?_) [9] rfl (by kernel_rfl) (by kernel_rfl) (by kernel_rfl) (by kernel_rfl) (by kernel_rfl) (by kernel_rfl) (fun _ _ _ h => h) (s0) (by rfl) ?_ ?_
        rotate_left
        · intro x hx; obtain ⟨u1, u2, u3, u4⟩ := hx; go_simp; try (with_reducible rfl)
        try simp only [Act.put, List.setIfInBounds_toArray, List.set_cons_zero, List.set_cons_succ, List.getElem_toArray, List.getElem_cons_zero, List.getElem_cons_succ]
        refine wpAnyZ_step (i := 5) (by kernel_rfl) rfl (by rfl) ?_
        intro KK hKK
        go_simp
        go_at_call 45
        refine (HD.out (ml.length : Int) wd g (by omega) FD.out.dr).mono ?_
        rintro e w9 ⟨x9, hx9, rfl, d9, k9⟩
        have F9 := Lib.hid (FD.out.keptN d9 k9 (fun _ e => e) hgW hgt hglo)
        have hz9 := k9.size
        have M9 := Lib.hid (MD.out.kept k9 fun b hb e => by omega)
        clear d9 k9 FD MD s0
        obtain ⟨k9, rfl⟩ : ∃ k9 : Nat, x9 = k9 := ⟨x9.toNat, by omega⟩
        have hk9 : k9 < ml.length := by omega
        have hk9i : (k9 : Int) < (ml.length : Int) := by omega
        have hk90 : (0 : Int) ≤ (k9 : Int) := by omega
        go_wp2_with fail
        have s9 : w9.cell? ⟨gt, 0, none⟩ = some (.int .i64 p) ∧ w9.cell? ⟨gt, 1, none⟩ = some (.slice a bs.length c) ∧ w9.cell? ⟨gt, 2, none⟩ = some (.slice b ps.length d) ∧ RowC rvs ml.length gr w9 := ⟨F9.out.bx.c0, F9.out.bx.c1, F9.out.bx.c2, M9.out.cells⟩
        refine hKK.out _ _ (.inr s9) ?_
        clear hKK KK
        try simp only [Act.put, List.setIfInBounds_toArray, List.set_cons_zero, List.set_cons_succ, List.getElem_toArray, List.getElem_cons_zero, List.getElem_cons_succ]
        obtain ⟨va, vc, vs, hu9, hvs, -, fv⟩ := M9.out.row k9 hk9
        have V9 := Lib.hid (fv.low (lo' := u.heap.size) (by omega))
        have HVL := Lib.hid (MB.out _ hvs)
        have HU9 := Lib.hid hu9
        clear hvs fv hu9
        refine wpAnyZ_takeC (i := 6) (v := ?_) [9] rfl (by kernel_rfl) (by kernel_rfl) (by kernel_rfl) (by kernel_rfl) (by kernel_rfl) (by kernel_rfl) (fun _ _ _ h => h) (s9) (by rfl) ?_ ?_
        rotate_left
        · intro x hx; obtain ⟨u1, u2, u3, u4⟩ := hx; go_simp; try (with_reducible rfl)
        try simp only [Act.put, List.setIfInBounds_toArray, List.set_cons_zero, List.set_cons_succ, List.getElem_toArray, List.getElem_cons_zero, List.getElem_cons_succ]
        refine wpAnyZ_takeC (i := 7) (v := .slice va vs.length vc) [9] rfl (by kernel_rfl) (by kernel_rfl) (by kernel_rfl) (by kernel_rfl) (by kernel_rfl) (by kernel_rfl) (fun _ _ _ h => h) (s9) (by rfl) ?_ ?_
        · intro x hx
          obtain ⟨u1, u2, u3, u4⟩ := hx
          have hc9 := u4 k9 _ hk9 HU9.out
          go_simp
        try simp only [Act.put, List.setIfInBounds_toArray, List.set_cons_zero, List.set_cons_succ, List.getElem_toArray, List.getElem_cons_zero, List.getElem_cons_succ]
        obtain ⟨⟨z1, z2, z3, c0, c1, c2⟩, ⟨f0, f1, f2⟩, gz⟩ := F9.out.z
        have sF : (((w9.setCell ⟨W.heap.size, 0, none⟩ (.int .i64 p)).setCell ⟨W.heap.size, 1, none⟩ (.slice a bs.length c)).setCell ⟨W.heap.size, 2, none⟩ (.slice b ps.length d)).cell? ⟨gt, 0, none⟩ = some (.int .i64 p) ∧ (((w9.setCell ⟨W.heap.size, 0, none⟩ (.int .i64 p)).setCell ⟨W.heap.size, 1, none⟩ (.slice a bs.length c)).setCell ⟨W.heap.size, 2, none⟩ (.slice b ps.length d)).cell? ⟨gt, 1, none⟩ = some (.slice a bs.length c) ∧ (((w9.setCell ⟨W.heap.size, 0, none⟩ (.int .i64 p)).setCell ⟨W.heap.size, 1, none⟩ (.slice a bs.length c)).setCell ⟨W.heap.size, 2, none⟩ (.slice b ps.length d)).cell? ⟨gt, 2, none⟩ = some (.slice b ps.length d) ∧ RowC rvs ml.length gr (((w9.setCell ⟨W.heap.size, 0, none⟩ (.int .i64 p)).setCell ⟨W.heap.size, 1, none⟩ (.slice a bs.length c)).setCell ⟨W.heap.size, 2, none⟩ (.slice b ps.length d)) := by
          have kk : Kept (fun q => q = W.heap.size) w9 (((w9.setCell ⟨W.heap.size, 0, none⟩ (.int .i64 p)).setCell ⟨W.heap.size, 1, none⟩ (.slice a bs.length c)).setCell ⟨W.heap.size, 2, none⟩ (.slice b ps.length d)) := ((keptSet' (S := fun q => q = W.heap.size) rfl).trans (keptSet' (S := fun q => q = W.heap.size) rfl)).trans (keptSet' (S := fun q => q = W.heap.size) rfl)
          have hx := F9.out.bx.kept kk (by omega)
          exact ⟨hx.c0, hx.c1, hx.c2, (M9.out.kept kk fun b hb e => by omega).cells⟩
        have HL := Lib.hid (layV (p := p) (c := c) (d := d) F9.out.bl (F9.out.fr.low (lo' := u.heap.size) (by omega)) V9.out (by omega))
        refine wpAnyZ_step (i := 8) (by kernel_rfl) rfl (by rfl) ?_
        intro KK hKK
        go_simp
        refine hKK.out _ _ (.inr sF) ?_
        clear hKK KK
        try simp only [Act.put, List.setIfInBounds_toArray, List.set_cons_zero, List.set_cons_succ, List.getElem_toArray, List.getElem_cons_zero, List.getElem_cons_succ]
        refine wpAnyZ_step (i := 9) (by kernel_rfl) rfl (by rfl) ?_
        intro KK hKK
        go_simp
        refine hKK.out _ _ (.inl (by kernel_rfl)) ?_
        clear hKK KK
        try simp only [Act.put, List.setIfInBounds_toArray, List.set_cons_zero, List.set_cons_succ, List.getElem_toArray, List.getElem_cons_zero, List.getElem_cons_succ]
        refine wpAnyZ_done (by kernel_rfl) ?_ _
        go_wp2_with fail
        refine bodyPost_ret (v := .tuple #[.agg #[.int .i64 p, .slice a bs.length c, .slice b ps.length d], .slice va vs.length vc]) (by simp [results, Try.results39, go_sem, gz, c0, c1, c2]) rfl ?_
        exact ⟨p, a, c, b, d, bs, ps, va, vc, vs, rfl, HL.out.1, HL.out.2.1, ⟨hsm, HVL.out⟩, HL.out.2.2⟩
      · have hml2 : ¬ (0 : Int) < (ml.length : Int) := by omega
        clear M
        obtain ⟨zB, cB0, cB1, cB2, fB2⟩ := F.out.bx
        go_wp2_with fail
        clear zB cB0 cB1 cB2 fB2
        have FD := Lib.hid (F.out.below (w' := w5.drew) (Below.refl _ _).drew)
        have s0 : w5.drew.cell? ⟨gt, 0, none⟩ = some (.int .i64 p) ∧ w5.drew.cell? ⟨gt, 1, none⟩ = some (.slice a bs.length c) ∧ w5.drew.cell? ⟨gt, 2, none⟩ = some (.slice b ps.length d) ∧ True := ⟨FD.out.bx.c0, FD.out.bx.c1, FD.out.bx.c2, trivial⟩
        refine wp_regionZ (fun w9 => w9.cell? ⟨gt, 0, none⟩ = some (.int .i64 p) ∧ w9.cell? ⟨gt, 1, none⟩ = some (.slice a bs.length c) ∧ w9.cell? ⟨gt, 2, none⟩ = some (.slice b ps.length d) ∧ True) 6 (by kernel_rfl) ?_
        clear F
        generalize w5.drew = wd at *
        refine wpAnyZ_takeC (i := 0) (v := ?_) [6] rfl (by kernel_rfl) (by kernel_rfl) (by kernel_rfl) (by kernel_rfl) (by kernel_rfl) (by kernel_rfl) (fun _ _ _ h => h) (s0) (by rfl) ?_ ?_
        rotate_left
        · intro x hx; obtain ⟨u1, u2, u3, u4⟩ := hx; go_simp; try (with_reducible rfl)
        try simp only [Act.put, List.setIfInBounds_toArray, List.set_cons_zero, List.set_cons_succ, List.getElem_toArray, List.getElem_cons_zero, List.getElem_cons_succ]
        refine wpAnyZ_takeC (i := 1) (v := ?_) [6] rfl (by kernel_rfl) (by kernel_rfl) (by kernel_rfl) (by kernel_rfl) (by kernel_rfl) (by kernel_rfl) (fun _ _ _ h => h) (s0) (by rfl) ?_ ?_
        rotate_left
        · intro x hx; obtain ⟨u1, u2, u3, u4⟩ := hx; go_simp; try (with_reducible rfl)
        try simp only [Act.put, List.setIfInBounds_toArray, List.set_cons_zero, List.set_cons_succ, List.getElem_toArray, List.getElem_cons_zero, List.getElem_cons_succ]
        refine wpAnyZ_takeC (i := 2) (v := ?_) [6] rfl (by kernel_rfl) (by kernel_rfl) (by kernel_rfl) (by kernel_rfl) (by kernel_rfl) (by kernel_rfl) (fun _ _ _ h => h) (s0) (by rfl) ?_ ?_
        rotate_left
        · intro x hx; obtain ⟨u1, u2, u3, u4⟩ := hx; go_simp; try (with_reducible rfl)
        try simp only [Act.put, List.setIfInBounds_toArray, List.set_cons_zero, List.set_cons_succ, List.getElem_toArray, List.getElem_cons_zero, List.getElem_cons_succ]
        refine wpAnyZ_step (i := 3) (by kernel_rfl) rfl (by rfl) ?_
        intro KK hKK
        go_simp
        go_at_call 45
        refine (HD.out 13 wd g (by decide) FD.out.dr).mono ?_
        rintro e w7 ⟨x7, hx7, rfl, d7, k7⟩
        have F7 := Lib.hid (FD.out.keptN d7 k7 (fun _ e => e) hgW hgt hglo)
        have hz7 := k7.size
        clear d7 k7 FD s0
        obtain ⟨m7, hm7⟩ : ∃ m7 : Nat, x7 = m7 := ⟨x7.toNat, by omega⟩
        go_wp2_with fail
        have s7 : w7.cell? ⟨gt, 0, none⟩ = some (.int .i64 p) ∧ w7.cell? ⟨gt, 1, none⟩ = some (.slice a bs.length c) ∧ w7.cell? ⟨gt, 2, none⟩ = some (.slice b ps.length d) ∧ True := ⟨F7.out.bx.c0, F7.out.bx.c1, F7.out.bx.c2, trivial⟩
        refine hKK.out _ _ (.inr s7) ?_
        clear hKK KK
        try simp only [Act.put, List.setIfInBounds_toArray, List.set_cons_zero, List.set_cons_succ, List.getElem_toArray, List.getElem_cons_zero, List.getElem_cons_succ]
        refine wpAnyZ_step (i := 4) (by kernel_rfl) rfl (by rfl) ?_
        intro KK hKK
        go_simp
        go_at_call 58
        refine (HV.out (m7) _ w7 (by omega) (by omega) F7.out.dr).mono ?_
        rintro e w9 ⟨vv, vs, rfl, ho, hvl, hvs, d9, k9⟩
        obtain ⟨va, vc, rfl, fv⟩ := OwnInts.fr ho
        have F9 := Lib.hid (F7.out.keptN d9 k9 (fun _ e => e) hgW hgt hglo)
        have V9 := Lib.hid (fv.low (lo' := u.heap.size) F7.out.dr.bel.size)
        have HVL : Hid (vs.length ≤ 1048576 ∧ SmV vs) := Lib.hid (And.intro (by omega) (SmV.of hvs))
        clear ho hvl hvs d9 k9 fv F7
        go_wp2_with fail
        have s9 : w9.cell? ⟨gt, 0, none⟩ = some (.int .i64 p) ∧ w9.cell? ⟨gt, 1, none⟩ = some (.slice a bs.length c) ∧ w9.cell? ⟨gt, 2, none⟩ = some (.slice b ps.length d) ∧ True := ⟨F9.out.bx.c0, F9.out.bx.c1, F9.out.bx.c2, trivial⟩
        refine hKK.out _ _ (.inr s9) ?_
        clear hKK KK
        try simp only [Act.put, List.setIfInBounds_toArray, List.set_cons_zero, List.set_cons_succ, List.getElem_toArray, List.getElem_cons_zero, List.getElem_cons_succ]
        obtain ⟨⟨z1, z2, z3, c0, c1, c2⟩, ⟨f0, f1, f2⟩, gz⟩ := F9.out.z
        have sF : (((w9.setCell ⟨W.heap.size, 0, none⟩ (.int .i64 p)).setCell ⟨W.heap.size, 1, none⟩ (.slice a bs.length c)).setCell ⟨W.heap.size, 2, none⟩ (.slice b ps.length d)).cell? ⟨gt, 0, none⟩ = some (.int .i64 p) ∧ (((w9.setCell ⟨W.heap.size, 0, none⟩ (.int .i64 p)).setCell ⟨W.heap.size, 1, none⟩ (.slice a bs.length c)).setCell ⟨W.heap.size, 2, none⟩ (.slice b ps.length d)).cell? ⟨gt, 1, none⟩ = some (.slice a bs.length c) ∧ (((w9.setCell ⟨W.heap.size, 0, none⟩ (.int .i64 p)).setCell ⟨W.heap.size, 1, none⟩ (.slice a bs.length c)).setCell ⟨W.heap.size, 2, none⟩ (.slice b ps.length d)).cell? ⟨gt, 2, none⟩ = some (.slice b ps.length d) ∧ True := by
          have kk : Kept (fun q => q = W.heap.size) w9 (((w9.setCell ⟨W.heap.size, 0, none⟩ (.int .i64 p)).setCell ⟨W.heap.size, 1, none⟩ (.slice a bs.length c)).setCell ⟨W.heap.size, 2, none⟩ (.slice b ps.length d)) := ((keptSet' (S := fun q => q = W.heap.size) rfl).trans (keptSet' (S := fun q => q = W.heap.size) rfl)).trans (keptSet' (S := fun q => q = W.heap.size) rfl)
          have hx := F9.out.bx.kept kk (by omega)
          exact ⟨hx.c0, hx.c1, hx.c2, trivial⟩
        have HL := Lib.hid (layV (p := p) (c := c) (d := d) F9.out.bl (F9.out.fr.low (lo' := u.heap.size) (by omega)) V9.out (by omega))
        refine wpAnyZ_step (i := 5) (by kernel_rfl) rfl (by rfl) ?_
        intro KK hKK
        go_simp
        refine hKK.out _ _ (.inr sF) ?_
        clear hKK KK
        try simp only [Act.put, List.setIfInBounds_toArray, List.set_cons_zero, List.set_cons_succ, List.getElem_toArray, List.getElem_cons_zero, List.getElem_cons_succ]
        refine wpAnyZ_step (i := 6) (by kernel_rfl) rfl (by rfl) ?_
        intro KK hKK
        go_simp
        refine hKK.out _ _ (.inl (by kernel_rfl)) ?_
        clear hKK KK
        try simp only [Act.put, List.setIfInBounds_toArray, List.set_cons_zero, List.set_cons_succ, List.getElem_toArray, List.getElem_cons_zero, List.getElem_cons_succ]
        refine wpAnyZ_done (by kernel_rfl) ?_ _
        go_wp2_with fail
        refine bodyPost_ret (v := .tuple #[.agg #[.int .i64 p, .slice a bs.length c, .slice b ps.length d], .slice va vs.length vc]) (by simp [results, Try.results39, go_sem, gz, c0, c1, c2]) rfl ?_
        exact ⟨p, a, c, b, d, bs, ps, va, vc, vs, rfl, HL.out.1, HL.out.2.1, ⟨hsm, HVL.out⟩, HL.out.2.2⟩
    · obtain ⟨zB, cB0, cB1, cB2, fB2⟩ := F.out.bx
      go_wp2_with fail
      clear zB cB0 cB1 cB2 fB2
      refine (spec_PlaneMotions w5 _ (p, bs, ps) (F.out.fr.is p c d) hsz).mono ?_
      rintro e w6 ⟨pv, rfl, po, pb⟩
      have hz3 := F.out.dr.bel.size
      have hg3 := F.out.dr.hi
      obtain ⟨w2p, hw2p⟩ : ∃ q, q = w5.heap.size := ⟨_, rfl⟩
      have hp2 : g < w2p ∧ u.heap.size ≤ w2p ∧ W.heap.size < w2p := by omega
      obtain ⟨pl, hpl0⟩ : ∃ q, q = plmL (p, bs, ps) := ⟨_, rfl⟩
      have PB : Hid (∀ r, r ∈ pl → r.length ≤ 1048576 ∧ SmV r) := Lib.hid fun r hr => plmL_bd (by rw [hpl0] at hr; exact hr)
      have hpl3 : Hid (0 < pl.length → pl.length = 3) := Lib.hid fun hh => by rw [hpl0] at hh ⊢; exact plmL_len3 hh
      have hplen : pl.length ≤ 1048576 := by have := plR_sz (p, bs, ps); unfold szIntss at this; rw [hpl0]; omega
      rw [← hpl0, ← hw2p] at po
      replace F := Lib.hid (F.out.below pb)
      replace M := Lib.hid (M.out.below pb)
      obtain ⟨pa, pc, rfl, -⟩ := po.form
      have Pm := Lib.hid po
      have hz6 := pb.size
      clear po pb hpl0 hw2p
      by_cases hpl : 0 < pl.length
      · have hpl2 : (0 : Int) < (pl.length : Int) := by omega
        have HP3 := Lib.hid (hpl3.out hpl)
        obtain ⟨gr, rvs, hAA, rv⟩ := rowsAt Pm.out (by omega)
        subst hAA
        have RV := Lib.hid rv
        clear rv Pm
        obtain ⟨zB, cB0, cB1, cB2, fB2⟩ := F.out.bx
        go_wp2_with fail
        clear zB cB0 cB1 cB2 fB2
        have FD := Lib.hid (F.out.below (w' := w6.drew) (Below.refl _ _).drew)
        have MD := Lib.hid (RV.out.below (w' := w6.drew) (Below.refl _ _).drew)
        have s0 : w6.drew.cell? ⟨gt, 0, none⟩ = some (.int .i64 p) ∧ w6.drew.cell? ⟨gt, 1, none⟩ = some (.slice a bs.length c) ∧ w6.drew.cell? ⟨gt, 2, none⟩ = some (.slice b ps.length d) ∧ RowC rvs pl.length gr w6.drew := ⟨FD.out.bx.c0, FD.out.bx.c1, FD.out.bx.c2, MD.out.cells⟩
        refine wp_regionZ (fun w9 => w9.cell? ⟨gt, 0, none⟩ = some (.int .i64 p) ∧ w9.cell? ⟨gt, 1, none⟩ = some (.slice a bs.length c) ∧ w9.cell? ⟨gt, 2, none⟩ = some (.slice b ps.length d) ∧ RowC rvs pl.length gr w9) 7 (by kernel_rfl) ?_
        clear F RV
        generalize w6.drew = wd at *
        refine wpAnyZ_takeC (i := 0) (v := ?_) [7] rfl (by kernel_rfl) (by kernel_rfl) (by kernel_rfl) (by kernel_rfl) (by kernel_rfl) (by kernel_rfl) (fun _ _ _ h => h) (s0) (by rfl) ?_ ?_
        rotate_left
        · intro x hx; obtain ⟨u1, u2, u3, u4⟩ := hx; go_simp; try (with_reducible rfl)
        try simp only [Act.put, List.setIfInBounds_toArray, List.set_cons_zero, List.set_cons_succ, List.getElem_toArray, List.getElem_cons_zero, List.getElem_cons_succ]
        refine wpAnyZ_takeC (i := 1) (v := ?_) [7] rfl (by kernel_rfl) (by kernel_rfl) (by kernel_rfl) (by kernel_rfl) (by kernel_rfl) (by kernel_rfl) (fun _ _ _ h => h) (s0) (by rfl) ?_ ?_
        rotate_left
        · intro x hx; obtain ⟨u1, u2, u3, u4⟩ := hx; go_simp; try (with_reducible rfl)
        try simp only [Act.put, List.setIfInBounds_toArray, List.set_cons_zero, List.set_cons_succ, List.getElem_toArray, List.getElem_cons_zero, List.getElem_cons_succ]
        refine wpAnyZ_takeC (i := 2) (v := ?_) [7] rfl (by kernel_rfl) (by kernel_rfl) (by kernel_rfl) (by kernel_rfl) (by kernel_rfl) (by kernel_rfl) (fun _ _ _ h => h) (s0) (by rfl) ?_ ?_
        rotate_left
        · intro x hx; obtain ⟨u1, u2, u3, u4⟩ := hx; go_simp; try (with_reducible rfl)
        try simp only [Act.put, List.setIfInBounds_toArray, List.set_cons_zero, List.set_cons_succ, List.getElem_toArray, List.getElem_cons_zero, List.getElem_cons_succ]
        refine wpAnyZ_step (i := 3) (by kernel_rfl) rfl (by rfl) ?_
        intro KK hKK
        go_simp
        go_at_call 45
        refine (HD.out 3 wd g (by omega) FD.out.dr).mono ?_
        rintro e w9 ⟨x9, hx9, rfl, d9, k9⟩
        have F9 := Lib.hid (FD.out.keptN d9 k9 (fun _ e => e) hgW hgt hglo)
        have hz9 := k9.size
        have M9 := Lib.hid (MD.out.kept k9 fun b hb e => by omega)
        clear d9 k9 FD MD s0
        obtain ⟨k9, rfl⟩ : ∃ k9 : Nat, x9 = k9 := ⟨x9.toNat, by omega⟩
        have hk9 : k9 < pl.length := by have := HP3.out; omega
        have hk9i : (k9 : Int) < (pl.length : Int) := by omega
        have hk90 : (0 : Int) ≤ (k9 : Int) := by omega
        go_wp2_with fail
        have s9 : w9.cell? ⟨gt, 0, none⟩ = some (.int .i64 p) ∧ w9.cell? ⟨gt, 1, none⟩ = some (.slice a bs.length c) ∧ w9.cell? ⟨gt, 2, none⟩ = some (.slice b ps.length d) ∧ RowC rvs pl.length gr w9 := ⟨F9.out.bx.c0, F9.out.bx.c1, F9.out.bx.c2, M9.out.cells⟩
        refine hKK.out _ _ (.inr s9) ?_
        clear hKK KK
        try simp only [Act.put, List.setIfInBounds_toArray, List.set_cons_zero, List.set_cons_succ, List.getElem_toArray, List.getElem_cons_zero, List.getElem_cons_succ]
        obtain ⟨va, vc, vs, hu9, hvs, -, fv⟩ := M9.out.row k9 hk9
        have V9 := Lib.hid (fv.low (lo' := u.heap.size) (by omega))
        have HVL := Lib.hid (PB.out _ hvs)
        have HU9 := Lib.hid hu9
        clear hvs fv hu9
        refine wpAnyZ_takeC (i := 4) (v := ?_) [7] rfl (by kernel_rfl) (by kernel_rfl) (by kernel_rfl) (by kernel_rfl) (by kernel_rfl) (by kernel_rfl) (fun _ _ _ h => h) (s9) (by rfl) ?_ ?_
        rotate_left
        · intro x hx; obtain ⟨u1, u2, u3, u4⟩ := hx; go_simp; try (with_reducible rfl)
        try simp only [Act.put, List.setIfInBounds_toArray, List.set_cons_zero, List.set_cons_succ, List.getElem_toArray, List.getElem_cons_zero, List.getElem_cons_succ]
        refine wpAnyZ_takeC (i := 5) (v := .slice va vs.length vc) [7] rfl (by kernel_rfl) (by kernel_rfl) (by kernel_rfl) (by kernel_rfl) (by kernel_rfl) (by kernel_rfl) (fun _ _ _ h => h) (s9) (by rfl) ?_ ?_
        · intro x hx
          obtain ⟨u1, u2, u3, u4⟩ := hx
          have hc9 := u4 k9 _ hk9 HU9.out
          go_simp
        try simp only [Act.put, List.setIfInBounds_toArray, List.set_cons_zero, List.set_cons_succ, List.getElem_toArray, List.getElem_cons_zero, List.getElem_cons_succ]
        obtain ⟨⟨z1, z2, z3, c0, c1, c2⟩, ⟨f0, f1, f2⟩, gz⟩ := F9.out.z
        have sF : (((w9.setCell ⟨W.heap.size, 0, none⟩ (.int .i64 p)).setCell ⟨W.heap.size, 1, none⟩ (.slice a bs.length c)).setCell ⟨W.heap.size, 2, none⟩ (.slice b ps.length d)).cell? ⟨gt, 0, none⟩ = some (.int .i64 p) ∧ (((w9.setCell ⟨W.heap.size, 0, none⟩ (.int .i64 p)).setCell ⟨W.heap.size, 1, none⟩ (.slice a bs.length c)).setCell ⟨W.heap.size, 2, none⟩ (.slice b ps.length d)).cell? ⟨gt, 1, none⟩ = some (.slice a bs.length c) ∧ (((w9.setCell ⟨W.heap.size, 0, none⟩ (.int .i64 p)).setCell ⟨W.heap.size, 1, none⟩ (.slice a bs.length c)).setCell ⟨W.heap.size, 2, none⟩ (.slice b ps.length d)).cell? ⟨gt, 2, none⟩ = some (.slice b ps.length d) ∧ RowC rvs pl.length gr (((w9.setCell ⟨W.heap.size, 0, none⟩ (.int .i64 p)).setCell ⟨W.heap.size, 1, none⟩ (.slice a bs.length c)).setCell ⟨W.heap.size, 2, none⟩ (.slice b ps.length d)) := by
          have kk : Kept (fun q => q = W.heap.size) w9 (((w9.setCell ⟨W.heap.size, 0, none⟩ (.int .i64 p)).setCell ⟨W.heap.size, 1, none⟩ (.slice a bs.length c)).setCell ⟨W.heap.size, 2, none⟩ (.slice b ps.length d)) := ((keptSet' (S := fun q => q = W.heap.size) rfl).trans (keptSet' (S := fun q => q = W.heap.size) rfl)).trans (keptSet' (S := fun q => q = W.heap.size) rfl)
          have hx := F9.out.bx.kept kk (by omega)
          exact ⟨hx.c0, hx.c1, hx.c2, (M9.out.kept kk fun b hb e => by omega).cells⟩
        have HL := Lib.hid (layV (p := p) (c := c) (d := d) F9.out.bl (F9.out.fr.low (lo' := u.heap.size) (by omega)) V9.out (by omega))
        refine wpAnyZ_step (i := 6) (by kernel_rfl) rfl (by rfl) ?_
        intro KK hKK
        go_simp
        refine hKK.out _ _ (.inr sF) ?_
        clear hKK KK
        try simp only [Act.put, List.setIfInBounds_toArray, List.set_cons_zero, List.set_cons_succ, List.getElem_toArray, List.getElem_cons_zero, List.getElem_cons_succ]
        refine wpAnyZ_step (i := 7) (by kernel_rfl) rfl (by rfl) ?_
        intro KK hKK
        go_simp
        refine hKK.out _ _ (.inl (by kernel_rfl)) ?_
        clear hKK KK
        try simp only [Act.put, List.setIfInBounds_toArray, List.set_cons_zero, List.set_cons_succ, List.getElem_toArray, List.getElem_cons_zero, List.getElem_cons_succ]
        refine wpAnyZ_done (by kernel_rfl) ?_ _
        go_wp2_with fail
        refine bodyPost_ret (v := .tuple #[.agg #[.int .i64 p, .slice a bs.length c, .slice b ps.length d], .slice va vs.length vc]) (by simp [results, Try.results39, go_sem, gz, c0, c1, c2]) rfl ?_
        exact ⟨p, a, c, b, d, bs, ps, va, vc, vs, rfl, HL.out.1, HL.out.2.1, ⟨hsm, HVL.out⟩, HL.out.2.2⟩
      · have hpl2 : ¬ (0 : Int) < (pl.length : Int) := by omega
        clear Pm PB hpl3
        by_cases hml : 0 < ml.length
        · have hml2 : (0 : Int) < (ml.length : Int) := by omega
          obtain ⟨gr, rvs, hAA, rv⟩ := rowsAt M.out (by omega)
          subst hAA
          have RV := Lib.hid rv
          clear rv M
          obtain ⟨zB, cB0, cB1, cB2, fB2⟩ := F.out.bx
          go_wp2_with fail
          clear zB cB0 cB1 cB2 fB2
          have FD := Lib.hid (F.out.below (w' := w6.drew) (Below.refl _ _).drew)
          have MD := Lib.hid (RV.out.below (w' := w6.drew) (Below.refl _ _).drew)
          have s0 : w6.drew.cell? ⟨gt, 0, none⟩ = some (.int .i64 p) ∧ w6.drew.cell? ⟨gt, 1, none⟩ = some (.slice a bs.length c) ∧ w6.drew.cell? ⟨gt, 2, none⟩ = some (.slice b ps.length d) ∧ RowC rvs ml.length gr w6.drew := ⟨FD.out.bx.c0, FD.out.bx.c1, FD.out.bx.c2, MD.out.cells⟩
          refine wp_regionZ (fun w9 => w9.cell? ⟨gt, 0, none⟩ = some (.int .i64 p) ∧ w9.cell? ⟨gt, 1, none⟩ = some (.slice a bs.length c) ∧ w9.cell? ⟨gt, 2, none⟩ = some (.slice b ps.length d) ∧ RowC rvs ml.length gr w9) 9 (by kernel_rfl) ?_
          clear F RV
          generalize w6.drew = wd at *
          refine wpAnyZ_takeC (i := 0) (v := ?_) [9] rfl (by kernel_rfl) (by kernel_rfl) (by kernel_rfl) (by kernel_rfl) (by kernel_rfl) (by kernel_rfl) (fun _ _ _ h => h) (s0) (by rfl) ?_ ?_
          rotate_left
          · intro x hx; obtain ⟨u1, u2, u3, u4⟩ := hx; go_simp; try (with_reducible rfl)
          try simp only [Act.put, List.setIfInBounds_toArray, List.set_cons_zero, List.set_cons_succ, List.getElem_toArray, List.getElem_cons_zero, List.getElem_cons_succ]
          refine wpAnyZ_takeC (i := 1) (v := ?_) [9] rfl (by kernel_rfl) (by kernel_rfl) (by kernel_rfl) (by kernel_rfl) (by kernel_rfl) (by kernel_rfl) (fun _ _ _ h => h) (s0) (by rfl) ?_ ?_
          rotate_left
          · intro x hx; obtain ⟨u1, u2, u3, u4⟩ := hx; go_simp; try (with_reducible rfl)
          try simp only [Act.put, List.setIfInBounds_toArray, List.set_cons_zero, List.set_cons_succ, List.getElem_toArray, List.getElem_cons_zero, List.getElem_cons_succ]
          refine wpAnyZ_takeC (i := 2) (v := ?_) [9] rfl (by kernel_rfl) (by kernel_rfl) (by kernel_rfl) (by kernel_rfl) (by kernel_rfl) (by kernel_rfl) (fun _ _ _ h => h) (s0) (by rfl) ?_ ?_
          rotate_left
          · intro x hx; obtain ⟨u1, u2, u3, u4⟩ := hx; go_simp; try (with_reducible rfl)
          try simp only [Act.put, List.setIfInBounds_toArray, List.set_cons_zero, List.set_cons_succ, List.getElem_toArray, List.getElem_cons_zero, List.getElem_cons_succ]
          refine wpAnyZ_takeC (i := 3) (v := ?_) [9] rfl (by kernel_rfl) (by kernel_rfl) (by kernel_rfl) (by kernel_rfl) (by kernel_rfl) (by kernel_rfl) (fun _ _ _ h => h) (s0) (by rfl) ?_ ?_
          rotate_left
          · intro x hx; obtain ⟨u1, u2, u3, u4⟩ := hx; go_simp; try (with_reducible rfl)
          try simp only [Act.put, List.setIfInBounds_toArray, List.set_cons_zero, List.set_cons_succ, List.getElem_toArray, List.getElem_cons_zero, List.getElem_cons_succ]
          refine wpAnyZ_takeC (i := 4) (v := ?_) [9] rfl (by kernel_rfl) (by kernel_rfl) (by kernel_rfl) (by kernel_rfl) (by kernel_rfl) (by kernel_rfl) (fun _ _ _ h => h) (s0) (by rfl) ?_ ?_
          rotate_left
          · intro x hx; obtain ⟨u1, u2, u3, u4⟩ := hx; go_simp; try (with_reducible rfl)
          try simp only [Act.put, List.setIfInBounds_toArray, List.set_cons_zero, List.set_cons_succ, List.getElem_toArray, List.getElem_cons_zero, List.getElem_cons_succ]
          refine wpAnyZ_step (i := 5) (by kernel_rfl) rfl (by rfl) ?_
          intro KK hKK
          go_simp
          go_at_call 45
          refine (HD.out (ml.length : Int) wd g (by omega) FD.out.dr).mono ?_
          rintro e w9 ⟨x9, hx9, rfl, d9, k9⟩
          have F9 := Lib.hid (FD.out.keptN d9 k9 (fun _ e => e) hgW hgt hglo)
          have hz9 := k9.size
          have M9 := Lib.hid (MD.out.kept k9 fun b hb e => by omega)
          clear d9 k9 FD MD s0
          obtain ⟨k9, rfl⟩ : ∃ k9 : Nat, x9 = k9 := ⟨x9.toNat, by omega⟩
          have hk9 : k9 < ml.length := by omega
          have hk9i : (k9 : Int) < (ml.length : Int) := by omega
          have hk90 : (0 : Int) ≤ (k9 : Int) := by omega
          go_wp2_with fail
          have s9 : w9.cell? ⟨gt, 0, none⟩ = some (.int .i64 p) ∧ w9.cell? ⟨gt, 1, none⟩ = some (.slice a bs.length c) ∧ w9.cell? ⟨gt, 2, none⟩ = some (.slice b ps.length d) ∧ RowC rvs ml.length gr w9 := ⟨F9.out.bx.c0, F9.out.bx.c1, F9.out.bx.c2, M9.out.cells⟩
          refine hKK.out _ _ (.inr s9) ?_
          clear hKK KK
          try simp only [Act.put, List.setIfInBounds_toArray, List.set_cons_zero, List.set_cons_succ, List.getElem_toArray, List.getElem_cons_zero, List.getElem_cons_succ]
          obtain ⟨va, vc, vs, hu9, hvs, -, fv⟩ := M9.out.row k9 hk9
          have V9 := Lib.hid (fv.low (lo' := u.heap.size) (by omega))
          have HVL := Lib.hid (MB.out _ hvs)
          have HU9 := Lib.hid hu9
          clear hvs fv hu9
          refine wpAnyZ_takeC (i := 6) (v := ?_) [9] rfl (by kernel_rfl) (by kernel_rfl) (by kernel_rfl) (by kernel_rfl) (by kernel_rfl) (by kernel_rfl) (fun _ _ _ h => h) (s9) (by rfl) ?_ ?_
          rotate_left
          · intro x hx; obtain ⟨u1, u2, u3, u4⟩ := hx; go_simp; try (with_reducible rfl)
          try simp only [Act.put, List.setIfInBounds_toArray, List.set_cons_zero, List.set_cons_succ, List.getElem_toArray, List.getElem_cons_zero, List.getElem_cons_succ]
          refine wpAnyZ_takeC (i := 7) (v := .slice va vs.length vc) [9] rfl (by kernel_rfl) (by kernel_rfl) (by kernel_rfl) (by kernel_rfl) (by kernel_rfl) (by kernel_rfl) (fun _ _ _ h => h) (s9) (by rfl) ?_ ?_
          · intro x hx
            obtain ⟨u1, u2, u3, u4⟩ := hx
            have hc9 := u4 k9 _ hk9 HU9.out
            go_simp
          try simp only [Act.put, List.setIfInBounds_toArray, List.set_cons_zero, List.set_cons_succ, List.getElem_toArray, List.getElem_cons_zero, List.getElem_cons_succ]
          obtain ⟨⟨z1, z2, z3, c0, c1, c2⟩, ⟨f0, f1, f2⟩, gz⟩ := F9.out.z
          have sF : (((w9.setCell ⟨W.heap.size, 0, none⟩ (.int .i64 p)).setCell ⟨W.heap.size, 1, none⟩ (.slice a bs.length c)).setCell ⟨W.heap.size, 2, none⟩ (.slice b ps.length d)).cell? ⟨gt, 0, none⟩ = some (.int .i64 p) ∧ (((w9.setCell ⟨W.heap.size, 0, none⟩ (.int .i64 p)).setCell ⟨W.heap.size, 1, none⟩ (.slice a bs.length c)).setCell ⟨W.heap.size, 2, none⟩ (.slice b ps.length d)).cell? ⟨gt, 1, none⟩ = some (.slice a bs.length c) ∧ (((w9.setCell ⟨W.heap.size, 0, none⟩ (.int .i64 p)).setCell ⟨W.heap.size, 1, none⟩ (.slice a bs.length c)).setCell ⟨W.heap.size, 2, none⟩ (.slice b ps.length d)).cell? ⟨gt, 2, none⟩ = some (.slice b ps.length d) ∧ RowC rvs ml.length gr (((w9.setCell ⟨W.heap.size, 0, none⟩ (.int .i64 p)).setCell ⟨W.heap.size, 1, none⟩ (.slice a bs.length c)).setCell ⟨W.heap.size, 2, none⟩ (.slice b ps.length d)) := by
            have kk : Kept (fun q => q = W.heap.size) w9 (((w9.setCell ⟨W.heap.size, 0, none⟩ (.int .i64 p)).setCell ⟨W.heap.size, 1, none⟩ (.slice a bs.length c)).setCell ⟨W.heap.size, 2, none⟩ (.slice b ps.length d)) := ((keptSet' (S := fun q => q = W.heap.size) rfl).trans (keptSet' (S := fun q => q = W.heap.size) rfl)).trans (keptSet' (S := fun q => q = W.heap.size) rfl)
            have hx := F9.out.bx.kept kk (by omega)
            exact ⟨hx.c0, hx.c1, hx.c2, (M9.out.kept kk fun b hb e => by omega).cells⟩
          have HL := Lib.hid (layV (p := p) (c := c) (d := d) F9.out.bl (F9.out.fr.low (lo' := u.heap.size) (by omega)) V9.out (by omega))
          refine wpAnyZ_step (i := 8) (by kernel_rfl) rfl (by rfl) ?_
          intro KK hKK
          go_simp
          refine hKK.out _ _ (.inr sF) ?_
          clear hKK KK
          try simp only [Act.put, List.setIfInBounds_toArray, List.set_cons_zero, List.set_cons_succ, List.getElem_toArray, List.getElem_cons_zero, List.getElem_cons_succ]
          refine wpAnyZ_step (i := 9) (by kernel_rfl) rfl (by rfl) ?_
          intro KK hKK
          go_simp
          refine hKK.out _ _ (.inl (by kernel_rfl)) ?_
          clear hKK KK
          try simp only [Act.put, List.setIfInBounds_toArray, List.set_cons_zero, List.set_cons_succ, List.getElem_toArray, List.getElem_cons_zero, List.getElem_cons_succ]
          refine wpAnyZ_done (by kernel_rfl) ?_ _
          go_wp2_with fail
          refine bodyPost_ret (v := .tuple #[.agg #[.int .i64 p, .slice a bs.length c, .slice b ps.length d], .slice va vs.length vc]) (by simp [results, Try.results39, go_sem, gz, c0, c1, c2]) rfl ?_
          exact ⟨p, a, c, b, d, bs, ps, va, vc, vs, rfl, HL.out.1, HL.out.2.1, ⟨hsm, HVL.out⟩, HL.out.2.2⟩
        · have hml2 : ¬ (0 : Int) < (ml.length : Int) := by omega
          clear M
          obtain ⟨zB, cB0, cB1, cB2, fB2⟩ := F.out.bx
          go_wp2_with fail
          clear zB cB0 cB1 cB2 fB2
          have FD := Lib.hid (F.out.below (w' := w6.drew) (Below.refl _ _).drew)
          have s0 : w6.drew.cell? ⟨gt, 0, none⟩ = some (.int .i64 p) ∧ w6.drew.cell? ⟨gt, 1, none⟩ = some (.slice a bs.length c) ∧ w6.drew.cell? ⟨gt, 2, none⟩ = some (.slice b ps.length d) ∧ True := ⟨FD.out.bx.c0, FD.out.bx.c1, FD.out.bx.c2, trivial⟩
          refine wp_regionZ (fun w9 => w9.cell? ⟨gt, 0, none⟩ = some (.int .i64 p) ∧ w9.cell? ⟨gt, 1, none⟩ = some (.slice a bs.length c) ∧ w9.cell? ⟨gt, 2, none⟩ = some (.slice b ps.length d) ∧ True) 6 (by kernel_rfl) ?_
          clear F
          generalize w6.drew = wd at *
          refine wpAnyZ_takeC (i := 0) (v := ?_) [6] rfl (by kernel_rfl) (by kernel_rfl) (by kernel_rfl) (by kernel_rfl) (by kernel_rfl) (by kernel_rfl) (fun _ _ _ h => h) (s0) (by rfl) ?_ ?_
          rotate_left
          · intro x hx; obtain ⟨u1, u2, u3, u4⟩ := hx; go_simp; try (with_reducible rfl)
          try simp only [Act.put, List.setIfInBounds_toArray, List.set_cons_zero, List.set_cons_succ, List.getElem_toArray, List.getElem_cons_zero, List.getElem_cons_succ]
          refine wpAnyZ_takeC (i := 1) (v := ?_) [6] rfl (by kernel_rfl) (by kernel_rfl) (by kernel_rfl) (by kernel_rfl) (by kernel_rfl) (by kernel_rfl) (fun _ _ _ h => h) (s0) (by rfl) ?_ ?_
          rotate_left
          · intro x hx; obtain ⟨u1, u2, u3, u4⟩ := hx; go_simp; try (with_reducible rfl)
          try simp only [Act.put, List.setIfInBounds_toArray, List.set_cons_zero, List.set_cons_succ, List.getElem_toArray, List.getElem_cons_zero, List.getElem_cons_succ]
          refine wpAnyZ_takeC (i := 2) (v := ?_) [6] rfl (by kernel_rfl) (by kernel_rfl) (by kernel_rfl) (by kernel_rfl) (by kernel_rfl) (by kernel_rfl) (fun _ _ _ h => h) (s0) (by rfl) ?_ ?_
          rotate_left
          · intro x hx; obtain ⟨u1, u2, u3, u4⟩ := hx; go_simp; try (with_reducible rfl)
          try simp only [Act.put, List.setIfInBounds_toArray, List.set_cons_zero, List.set_cons_succ, List.getElem_toArray, List.getElem_cons_zero, List.getElem_cons_succ]
          refine wpAnyZ_step (i := 3) (by kernel_rfl) rfl (by rfl) ?_
          intro KK hKK
          go_simp
          go_at_call 45
          refine (HD.out 13 wd g (by decide) FD.out.dr).mono ?_
          rintro e w7 ⟨x7, hx7, rfl, d7, k7⟩
          have F7 := Lib.hid (FD.out.keptN d7 k7 (fun _ e => e) hgW hgt hglo)
          have hz7 := k7.size
          clear d7 k7 FD s0
          obtain ⟨m7, hm7⟩ : ∃ m7 : Nat, x7 = m7 := ⟨x7.toNat, by omega⟩
          go_wp2_with fail
          have s7 : w7.cell? ⟨gt, 0, none⟩ = some (.int .i64 p) ∧ w7.cell? ⟨gt, 1, none⟩ = some (.slice a bs.length c) ∧ w7.cell? ⟨gt, 2, none⟩ = some (.slice b ps.length d) ∧ True := ⟨F7.out.bx.c0, F7.out.bx.c1, F7.out.bx.c2, trivial⟩
          refine hKK.out _ _ (.inr s7) ?_
          clear hKK KK
          try simp only [Act.put, List.setIfInBounds_toArray, List.set_cons_zero, List.set_cons_succ, List.getElem_toArray, List.getElem_cons_zero, List.getElem_cons_succ]
          refine wpAnyZ_step (i := 4) (by kernel_rfl) rfl (by rfl) ?_
          intro KK hKK
          go_simp
          go_at_call 58
          refine (HV.out (m7) _ w7 (by omega) (by omega) F7.out.dr).mono ?_
          rintro e w9 ⟨vv, vs, rfl, ho, hvl, hvs, d9, k9⟩
          obtain ⟨va, vc, rfl, fv⟩ := OwnInts.fr ho
          have F9 := Lib.hid (F7.out.keptN d9 k9 (fun _ e => e) hgW hgt hglo)
          have V9 := Lib.hid (fv.low (lo' := u.heap.size) F7.out.dr.bel.size)
          have HVL : Hid (vs.length ≤ 1048576 ∧ SmV vs) := Lib.hid (And.intro (by omega) (SmV.of hvs))
          clear ho hvl hvs d9 k9 fv F7
          go_wp2_with fail
          have s9 : w9.cell? ⟨gt, 0, none⟩ = some (.int .i64 p) ∧ w9.cell? ⟨gt, 1, none⟩ = some (.slice a bs.length c) ∧ w9.cell? ⟨gt, 2, none⟩ = some (.slice b ps.length d) ∧ True := ⟨F9.out.bx.c0, F9.out.bx.c1, F9.out.bx.c2, trivial⟩
          refine hKK.out _ _ (.inr s9) ?_
          clear hKK KK
          try simp only [Act.put, List.setIfInBounds_toArray, List.set_cons_zero, List.set_cons_succ, List.getElem_toArray, List.getElem_cons_zero, List.getElem_cons_succ]
          obtain ⟨⟨z1, z2, z3, c0, c1, c2⟩, ⟨f0, f1, f2⟩, gz⟩ := F9.out.z
          have sF : (((w9.setCell ⟨W.heap.size, 0, none⟩ (.int .i64 p)).setCell ⟨W.heap.size, 1, none⟩ (.slice a bs.length c)).setCell ⟨W.heap.size, 2, none⟩ (.slice b ps.length d)).cell? ⟨gt, 0, none⟩ = some (.int .i64 p) ∧ (((w9.setCell ⟨W.heap.size, 0, none⟩ (.int .i64 p)).setCell ⟨W.heap.size, 1, none⟩ (.slice a bs.length c)).setCell ⟨W.heap.size, 2, none⟩ (.slice b ps.length d)).cell? ⟨gt, 1, none⟩ = some (.slice a bs.length c) ∧ (((w9.setCell ⟨W.heap.size, 0, none⟩ (.int .i64 p)).setCell ⟨W.heap.size, 1, none⟩ (.slice a bs.length c)).setCell ⟨W.heap.size, 2, none⟩ (.slice b ps.length d)).cell? ⟨gt, 2, none⟩ = some (.slice b ps.length d) ∧ True := by
            have kk : Kept (fun q => q = W.heap.size) w9 (((w9.setCell ⟨W.heap.size, 0, none⟩ (.int .i64 p)).setCell ⟨W.heap.size, 1, none⟩ (.slice a bs.length c)).setCell ⟨W.heap.size, 2, none⟩ (.slice b ps.length d)) := ((keptSet' (S := fun q => q = W.heap.size) rfl).trans (keptSet' (S := fun q => q = W.heap.size) rfl)).trans (keptSet' (S := fun q => q = W.heap.size) rfl)
            have hx := F9.out.bx.kept kk (by omega)
            exact ⟨hx.c0, hx.c1, hx.c2, trivial⟩
          have HL := Lib.hid (layV (p := p) (c := c) (d := d) F9.out.bl (F9.out.fr.low (lo' := u.heap.size) (by omega)) V9.out (by omega))
          refine wpAnyZ_step (i := 5) (by kernel_rfl) rfl (by rfl) ?_
          intro KK hKK
          go_simp
          refine hKK.out _ _ (.inr sF) ?_
          clear hKK KK
          try simp only [Act.put, List.setIfInBounds_toArray, List.set_cons_zero, List.set_cons_succ, List.getElem_toArray, List.getElem_cons_zero, List.getElem_cons_succ]
          refine wpAnyZ_step (i := 6) (by kernel_rfl) rfl (by rfl) ?_
          intro KK hKK
          go_simp
          refine hKK.out _ _ (.inl (by kernel_rfl)) ?_
          clear hKK KK
          try simp only [Act.put, List.setIfInBounds_toArray, List.set_cons_zero, List.set_cons_succ, List.getElem_toArray, List.getElem_cons_zero, List.getElem_cons_succ]
          refine wpAnyZ_done (by kernel_rfl) ?_ _
          go_wp2_with fail
          refine bodyPost_ret (v := .tuple #[.agg #[.int .i64 p, .slice a bs.length c, .slice b ps.length d], .slice va vs.length vc]) (by simp [results, Try.results39, go_sem, gz, c0, c1, c2]) rfl ?_
          exact ⟨p, a, c, b, d, bs, ps, va, vc, vs, rfl, HL.out.1, HL.out.2.1, ⟨hsm, HVL.out⟩, HL.out.2.2⟩
  · skip
    have hm := IntWalk.i64_in (2 * (ps.length : Int)) (by omega)
    obtain ⟨zB, cB0, cB1, cB2, fB2⟩ := F.out.bx
    go_wp2_with fail
    clear zB cB0 cB1 cB2 fB2
    have FD := Lib.hid (F.out.below (w' := w5.drew) (Below.refl _ _).drew)
    have s0 : w5.drew.cell? ⟨gt, 0, none⟩ = some (.int .i64 p) ∧ w5.drew.cell? ⟨gt, 1, none⟩ = some (.slice a bs.length c) ∧ w5.drew.cell? ⟨gt, 2, none⟩ = some (.slice b ps.length d) ∧ True := ⟨FD.out.bx.c0, FD.out.bx.c1, FD.out.bx.c2, trivial⟩
    refine wp_regionZ (fun w9 => w9.cell? ⟨gt, 0, none⟩ = some (.int .i64 p) ∧ w9.cell? ⟨gt, 1, none⟩ = some (.slice a bs.length c) ∧ w9.cell? ⟨gt, 2, none⟩ = some (.slice b ps.length d) ∧ True) 8 (by kernel_rfl) ?_
    clear F
    generalize w5.drew = wd at *
    refine wpAnyZ_takeC (i := 0) (v := ?_) [8] rfl (by kernel_rfl) (by kernel_rfl) (by kernel_rfl) (by kernel_rfl) (by kernel_rfl) (by kernel_rfl) (fun _ _ _ h => h) (s0) (by rfl) ?_ ?_
    rotate_left
    · intro x hx; obtain ⟨u1, u2, u3, u4⟩ := hx; go_simp; try (with_reducible rfl)
    try simp only [Act.put, List.setIfInBounds_toArray, List.set_cons_zero, List.set_cons_succ, List.getElem_toArray, List.getElem_cons_zero, List.getElem_cons_succ]
    refine wpAnyZ_takeC (i := 1) (v := ?_) [8] rfl (by kernel_rfl) (by kernel_rfl) (by kernel_rfl) (by kernel_rfl) (by kernel_rfl) (by kernel_rfl) (fun _ _ _ h => h) (s0) (by rfl) ?_ ?_
    rotate_left
    · intro x hx; obtain ⟨u1, u2, u3, u4⟩ := hx; go_simp; try (with_reducible rfl)
    try simp only [Act.put, List.setIfInBounds_toArray, List.set_cons_zero, List.set_cons_succ, List.getElem_toArray, List.getElem_cons_zero, List.getElem_cons_succ]
    refine wpAnyZ_takeC (i := 2) (v := ?_) [8] rfl (by kernel_rfl) (by kernel_rfl) (by kernel_rfl) (by kernel_rfl) (by kernel_rfl) (by kernel_rfl) (fun _ _ _ h => h) (s0) (by rfl) ?_ ?_
    rotate_left
    · intro x hx; obtain ⟨u1, u2, u3, u4⟩ := hx; go_simp; try (with_reducible rfl)
    try simp only [Act.put, List.setIfInBounds_toArray, List.set_cons_zero, List.set_cons_succ, List.getElem_toArray, List.getElem_cons_zero, List.getElem_cons_succ]
    refine wpAnyZ_takeC (i := 3) (v := ?_) [8] rfl (by kernel_rfl) (by kernel_rfl) (by kernel_rfl) (by kernel_rfl) (by kernel_rfl) (by kernel_rfl) (fun _ _ _ h => h) (s0) (by rfl) ?_ ?_
    rotate_left
    · intro x hx; obtain ⟨u1, u2, u3, u4⟩ := hx; go_simp; try (with_reducible rfl)
    try simp only [Act.put, List.setIfInBounds_toArray, List.set_cons_zero, List.set_cons_succ, List.getElem_toArray, List.getElem_cons_zero, List.getElem_cons_succ]
    refine wpAnyZ_takeC (i := 4) (v := ?_) [8] rfl (by kernel_rfl) (by kernel_rfl) (by kernel_rfl) (by kernel_rfl) (by kernel_rfl) (by kernel_rfl) (fun _ _ _ h => h) (s0) (by rfl) ?_ ?_
    rotate_left
    · intro x hx; obtain ⟨u1, u2, u3, u4⟩ := hx; go_simp; try (with_reducible rfl)
    try simp only [Act.put, List.setIfInBounds_toArray, List.set_cons_zero, List.set_cons_succ, List.getElem_toArray, List.getElem_cons_zero, List.getElem_cons_succ]
    refine wpAnyZ_takeC (i := 5) (v := ?_) [8] rfl (by kernel_rfl) (by kernel_rfl) (by kernel_rfl) (by kernel_rfl) (by kernel_rfl) (by kernel_rfl) (fun _ _ _ h => h) (s0) (by rfl) ?_ ?_
    rotate_left
    · intro x hx; obtain ⟨u1, u2, u3, u4⟩ := hx; go_simp; try (with_reducible rfl)
    try simp only [Act.put, List.setIfInBounds_toArray, List.set_cons_zero, List.set_cons_succ, List.getElem_toArray, List.getElem_cons_zero, List.getElem_cons_succ]
    clear hm
    refine wpAnyZ_step (i := 6) (by kernel_rfl) rfl (by rfl) ?_
    intro KK hKK
    go_simp
    go_at_call 58
    refine (HV.out (2 * ps.length) _ wd (by omega) (by omega) FD.out.dr).mono ?_
    rintro e w9 ⟨vv, vs, rfl, ho, hvl, hvs, d9, k9⟩
    obtain ⟨va, vc, rfl, fv⟩ := OwnInts.fr ho
    have F9 := Lib.hid (FD.out.keptN d9 k9 (fun _ e => e) hgW hgt hglo)
    have V9 := Lib.hid (fv.low (lo' := u.heap.size) FD.out.dr.bel.size)
    have HVL : Hid (vs.length ≤ 1048576 ∧ SmV vs) := Lib.hid (And.intro (by omega) (SmV.of hvs))
    clear ho hvl hvs d9 k9 fv FD
    go_wp2_with fail
    have s9 : w9.cell? ⟨gt, 0, none⟩ = some (.int .i64 p) ∧ w9.cell? ⟨gt, 1, none⟩ = some (.slice a bs.length c) ∧ w9.cell? ⟨gt, 2, none⟩ = some (.slice b ps.length d) ∧ True := ⟨F9.out.bx.c0, F9.out.bx.c1, F9.out.bx.c2, trivial⟩
    refine hKK.out _ _ (.inr s9) ?_
    clear hKK KK
    try simp only [Act.put, List.setIfInBounds_toArray, List.set_cons_zero, List.set_cons_succ, List.getElem_toArray, List.getElem_cons_zero, List.getElem_cons_succ]
    obtain ⟨⟨z1, z2, z3, c0, c1, c2⟩, ⟨f0, f1, f2⟩, gz⟩ := F9.out.z
    have sF : (((w9.setCell ⟨W.heap.size, 0, none⟩ (.int .i64 p)).setCell ⟨W.heap.size, 1, none⟩ (.slice a bs.length c)).setCell ⟨W.heap.size, 2, none⟩ (.slice b ps.length d)).cell? ⟨gt, 0, none⟩ = some (.int .i64 p) ∧ (((w9.setCell ⟨W.heap.size, 0, none⟩ (.int .i64 p)).setCell ⟨W.heap.size, 1, none⟩ (.slice a bs.length c)).setCell ⟨W.heap.size, 2, none⟩ (.slice b ps.length d)).cell? ⟨gt, 1, none⟩ = some (.slice a bs.length c) ∧ (((w9.setCell ⟨W.heap.size, 0, none⟩ (.int .i64 p)).setCell ⟨W.heap.size, 1, none⟩ (.slice a bs.length c)).setCell ⟨W.heap.size, 2, none⟩ (.slice b ps.length d)).cell? ⟨gt, 2, none⟩ = some (.slice b ps.length d) ∧ True := by
      have kk : Kept (fun q => q = W.heap.size) w9 (((w9.setCell ⟨W.heap.size, 0, none⟩ (.int .i64 p)).setCell ⟨W.heap.size, 1, none⟩ (.slice a bs.length c)).setCell ⟨W.heap.size, 2, none⟩ (.slice b ps.length d)) := ((keptSet' (S := fun q => q = W.heap.size) rfl).trans (keptSet' (S := fun q => q = W.heap.size) rfl)).trans (keptSet' (S := fun q => q = W.heap.size) rfl)
      have hx := F9.out.bx.kept kk (by omega)
      exact ⟨hx.c0, hx.c1, hx.c2, trivial⟩
    have HL := Lib.hid (layV (p := p) (c := c) (d := d) F9.out.bl (F9.out.fr.low (lo' := u.heap.size) (by omega)) V9.out (by omega))
    refine wpAnyZ_step (i := 7) (by kernel_rfl) rfl (by rfl) ?_
    intro KK hKK
    go_simp
    refine hKK.out _ _ (.inr sF) ?_
    clear hKK KK
    try simp only [Act.put, List.setIfInBounds_toArray, List.set_cons_zero, List.set_cons_succ, List.getElem_toArray, List.getElem_cons_zero, List.getElem_cons_succ]
    refine wpAnyZ_step (i := 8) (by kernel_rfl) rfl (by rfl) ?_
    intro KK hKK
    go_simp
    refine hKK.out _ _ (.inl (by kernel_rfl)) ?_
    clear hKK KK
    try simp only [Act.put, List.setIfInBounds_toArray, List.set_cons_zero, List.set_cons_succ, List.getElem_toArray, List.getElem_cons_zero, List.getElem_cons_succ]
    refine wpAnyZ_done (by kernel_rfl) ?_ _
    go_wp2_with fail
    refine bodyPost_ret (v := .tuple #[.agg #[.int .i64 p, .slice a bs.length c, .slice b ps.length d], .slice va vs.length vc]) (by simp [results, Try.results39, go_sem, gz, c0, c1, c2]) rfl ?_
    exact ⟨p, a, c, b, d, bs, ps, va, vc, vs, rfl, HL.out.1, HL.out.2.1, ⟨hsm, HVL.out⟩, HL.out.2.2⟩
end Go.Proofs.Ytfbmpkdjhhcnpaa

