/- What FnTrees draws: DrawCountTrees, DrawPackTrees, DrawIsSpanningTree, DrawIsForest of the reference. No condition but sizes. -/
import Derived.Test.YtfbmpkdjhhcnpaaGreatTrP12
import Derived.Test.YtfbmpkdjhhcnpaaGreatTrP24
import Derived.Test.YtfbmpkdjhhcnpaaGreatTrP02
import Derived.Test.YtfbmpkdjhhcnpaaGreatTrP07
import Derived.Laws.BitsLemmas
import Derived.Test.YtfbmpkdjhhcnpaaGreatTrP10
namespace Go.Proofs.YtfbmpkdjhhcnpaaGreat
open Go.RowKit
set_option maxRecDepth 100000
set_option linter.unusedVariables false
set_option linter.unusedSimpArgs false
/-- a list of numbers that is read; its block lies from lo on -/
structure FrInts (W : World) (lo : Nat) (a : Option Addr) (v : List Int) : Prop where
  at' : IntsAt W a v.length v
  la : ∀ g off, a = some ⟨g, off, none⟩ → lo ≤ g
theorem FrInts.kept {S : Nat → Prop} {W W' : World} {lo : Nat} {a : Option Addr} {v : List Int} (h : FrInts W lo a v) (hk : Kept S W W') (hS : ∀ b, lo ≤ b → ¬ S b) : FrInts W' lo a v :=
  ⟨h.at'.kept hk fun b off e => hS b (h.la b off e), h.la⟩
theorem FrInts.below {W W' : World} {lo : Nat} {a : Option Addr} {v : List Int} (h : FrInts W lo a v) (hb : Below W.heap.size W W') : FrInts W' lo a v := h.kept (Kept.of_below (S := fun _ => False) hb) fun _ _ => id
theorem FrInts.low {W : World} {lo lo' : Nat} {a : Option Addr} {v : List Int} (h : FrInts W lo a v) (hl : lo' ≤ lo) : FrInts W lo' a v := ⟨h.at', fun g off e => Nat.le_trans hl (h.la g off e)⟩
theorem FrInts.set {W : World} {lo g i : Nat} {x : Value} {a : Option Addr} {v : List Int} (h : FrInts W lo a v) (hg : g < lo) : FrInts (W.setCell ⟨g, i, none⟩ x) lo a v :=
  h.kept (keptSet' (S := fun k => k = g) rfl) fun b hb e => by omega
theorem FrInts.is {W : World} {lo : Nat} {a : Option Addr} {v : List Int} (h : FrInts W lo a v) (c : Nat) : IsInts W (.slice a v.length c) v := ⟨a, c, rfl, h.at'⟩
theorem OwnInts.fr {W : World} {lo : Nat} {u : Value} {v : List Int} (h : OwnInts W lo u v) : ∃ a c, u = .slice a v.length c ∧ FrInts W lo a v := by
  obtain ⟨a, c, rfl, hi⟩ := h.form
  exact ⟨a, c, rfl, hi, fun g off e => (h.lt g (by subst e; rfl)).1⟩
/-- a graph that is drawn -/
def RetGo (W : World) (e : Ending) (w' : World) : Prop :=
  ∃ p a c bs, e = .returned (.agg #[.int .i64 p, .slice a bs.length c]) ∧ OwnBars w' W.heap.size (.slice a bs.length c) bs ∧ bs.length ≤ 25 ∧ Below W.heap.size W w'
/-- a graph and a number that are drawn -/
def RetGk (W : World) (e : Ending) (w' : World) : Prop :=
  ∃ p a c bs k, e = .returned (.tuple #[.agg #[.int .i64 p, .slice a bs.length c], .int .i64 k]) ∧ OwnBars w' W.heap.size (.slice a bs.length c) bs ∧ (bs.length ≤ 25 ∧ 1 ≤ k ∧ k ≤ 3) ∧ Below W.heap.size W w'
/-- a graph and a list of numbers that are drawn -/
def RetGv (W : World) (e : Ending) (w' : World) : Prop :=
  ∃ p a c bs va vc v, e = .returned (.tuple #[.agg #[.int .i64 p, .slice a bs.length c], .slice va v.length vc]) ∧ OwnBars w' W.heap.size (.slice a bs.length c) bs ∧ FrInts w' W.heap.size va v ∧ (bs.length ≤ 25 ∧ v.length ≤ 1000) ∧ Below W.heap.size W w'
theorem layG {W w' : World} {p : Int} {a : Option Addr} {c lo : Nat} {bs : List BarT} (hb : Below W.heap.size W w') (ho : OwnBars w' lo (.slice a bs.length c) bs) (hlo : W.heap.size < lo) :
    OwnBars ((w'.setCell ⟨W.heap.size, 0, none⟩ (.int .i64 p)).setCell ⟨W.heap.size, 1, none⟩ (.slice a bs.length c)) W.heap.size (.slice a bs.length c) bs ∧ Below W.heap.size W ((w'.setCell ⟨W.heap.size, 0, none⟩ (.int .i64 p)).setCell ⟨W.heap.size, 1, none⟩ (.slice a bs.length c)) := by
  have k2 : Kept (fun b => b = W.heap.size) w' ((w'.setCell ⟨W.heap.size, 0, none⟩ (.int .i64 p)).setCell ⟨W.heap.size, 1, none⟩ (.slice a bs.length c)) := (keptSet' (S := fun b => b = W.heap.size) rfl).trans (keptSet' (S := fun b => b = W.heap.size) rfl)
  exact ⟨ownsRow_base (k2.ownsRow ho fun b h1 h2 => by have := (ho.lt b h1).1; omega) (by omega), (hb.setCell (p := ⟨W.heap.size, 0, none⟩) (Nat.le_refl _) _).setCell (p := ⟨W.heap.size, 1, none⟩) (Nat.le_refl _) _⟩
/-- what a walk of the Draw functions holds: the state of the draw, the result's box, the graph in its box -/
structure TdS (W u w : World) (g gt lo : Nat) (ca : Option Addr) (n cap : Nat) (l : List Int) (p : Int) (a : Option Addr) (c : Nat) (bs : List BarT) : Prop where
  dr : Drw u w g ca n cap l
  bl : Below W.heap.size W w
  z : Zer2 w W.heap.size
  bx : BoxGr w gt p a bs.length c
  ob : OwnBars w lo (.slice a bs.length c) bs
theorem TdS.draw {W u w w' : World} {g gt lo : Nat} {ca : Option Addr} {n cap : Nat} {l : List Int} {p : Int} {a : Option Addr} {c : Nat} {bs : List BarT} (h : TdS W u w g gt lo ca n cap l p a c bs) (hd : Drw u w' g ca n cap l) (hk : Kept (fun b => b = g) w w') (hgW : W.heap.size < g) (hgt : g < gt) (hlo : g < lo) : TdS W u w' g gt lo ca n cap l p a c bs :=
  ⟨hd, h.bl.trans (hk.below h.bl.size fun k hk1 hk2 => by omega), h.z.kept hk (by omega), h.bx.kept hk (by omega), h.ob.on hk hlo⟩
theorem TdS.below {W u w w' : World} {g gt lo : Nat} {ca : Option Addr} {n cap : Nat} {l : List Int} {p : Int} {a : Option Addr} {c : Nat} {bs : List BarT} (h : TdS W u w g gt lo ca n cap l p a c bs) (hb : Below w.heap.size w w') : TdS W u w' g gt lo ca n cap l p a c bs :=
  ⟨h.dr.below hb, h.bl.step hb, h.z.below hb, h.bx.below hb, OwnBars.below h.ob hb⟩
theorem cutInts {b n c : Nat} (h3 : 3 ≤ n) (hc : n ≤ c) (hm : c ≤ 9223372036854775807) (w : World) : (Instr.slice 35 (.slice (some ⟨b, 0, none⟩) n c) none (some (.int .i64 3)) none).run Tryz.prog w = .ok (.slice (some ⟨b, 0, none⟩) 3 c) w := by
  go_simp
  omega
theorem rowBlkT {w : World} {base s n : Nat} {e : TypeId} {v : Value} {xs : List Value} (h : w.ownsRow base e s v n xs) (hn : 0 < n) : ∃ b c, v = .slice (some ⟨b, 0, none⟩) n c ∧ n ≤ c ∧ c ≤ 9223372036854775807 ∧ base ≤ b ∧ b < w.heap.size := by
  rcases h.2 with ⟨_, h0⟩ | ⟨b, c, cur, rfl, hb, hg, h1, h2, _⟩
  · omega
  · exact ⟨b, c, rfl, h1, by have : maxLen = 9223372036854775807 := rfl; omega, hb, (Array.getElem?_eq_some_iff.1 hg).1⟩
set_option maxHeartbeats 8000000 in
theorem drawCtr_at (W : World) (ca : Option Addr) (n cap : Nat) (l : List Int) (hB : BytesAt W ca n l) (hn : n ≤ 1048576) : Calls Tryz.prog 20 #[.slice ca n cap] W (RetGo W) := by
  have ba := belAl W (.cells #[.int .i64 0, .slice none 0 0] 26)
  have Z := Lib.hid (Zer2.at W 26)
  have hBu := BytesAt.below hB ba
  have hzu : (W.alloc (.cells #[.int .i64 0, .slice none 0 0] 26)).heap.size = W.heap.size + 1 := by simp
  have BA := Lib.hid ba
  clear hB ba
  go_enter Tryz.func20, Tryz.ntmps20
  go_wp2_with fail
  generalize (W.alloc (.cells #[.int .i64 0, .slice none 0 0] 26)) = u at *
  have HN := Lib.hid (l1New_at u ca n cap l hBu hn)
  have HON : Hid (∀ (m : Int) w9 g, 1 ≤ m ∧ m ≤ 256 → Drw u w9 g ca n cap l → Calls Tryz.prog 58 #[.pointer (some ⟨g, 0, none⟩), .int .i64 m] w9 (RetDb u w9 g ca n cap l)) := Lib.hid fun m w9 g hm h9 => l1Once_at u w9 g ca n cap l hBu (by omega) h9 m hm
  have HA : Hid (∀ w9 g, Drw u w9 g ca n cap l → Calls Tryz.prog 57 #[.pointer (some ⟨g, 0, none⟩)] w9 (RetDg u w9 g ca n cap l fun p bs => bs.length ≤ 25)) := Lib.hid fun w9 g h9 => l2Any_at u w9 g ca n cap l hBu (by omega) h9
  have HPK : Hid (∀ w9 g, Drw u w9 g ca n cap l → Calls Tryz.prog 45 #[.pointer (some ⟨g, 0, none⟩)] w9 (RetPd u w9 g ca n cap l)) := Lib.hid fun w9 g h9 => l8Packed_at u w9 g ca n cap l hBu (by omega) h9
  have HSO : Hid (∀ w9 g (p : Int) (a : Option Addr) (N c : Nat), N ≤ 1000 → Drw u w9 g ca n cap l → Calls Tryz.prog 60 #[.pointer (some ⟨g, 0, none⟩), .agg #[.int .i64 p, .slice a N c]] w9 (RetDl u w9 g ca n cap l (N + 1))) := Lib.hid fun w9 g p a N c hN h9 => l5Some_at u w9 g ca n cap l hBu (by omega) h9 p a N c hN
  have hzu1 : W.heap.size < u.heap.size := by omega
  clear hBu hzu
  refine HN.out.mono ?_
  rintro e w1 ⟨g, rfl, d1⟩
  have D := Lib.hid d1
  have hz1 := d1.bel.size
  have hg0 := d1.low
  have hg1 := d1.hi
  have B := Lib.hid (BA.out.step d1.bel)
  replace Z := Lib.hid (Z.out.below d1.bel)
  clear d1 HN BA
  go_wp2_with fail
  refine (HA.out w1 g D.out).mono ?_
  rintro e w2 ⟨p, a, c, bs, rfl, ob, hsm, d2, k2⟩
  have HL := Lib.hid (layG (p := p) (B.out.trans (k2.below B.out.size fun k h1 h2 => by omega)) ob (by omega))
  have Z2 := Z.out.kept k2 (by omega)
  obtain ⟨⟨z1, z2, z3, c0, c1⟩, ⟨f0, f1⟩, gz⟩ := Z2
  clear ob d2 k2 D B Z HA HON HPK HSO
  go_wp2_with fail
  refine bodyPost_ret (v := .agg #[.int .i64 p, .slice a bs.length c]) (by simp [results, Tryz.results20, go_sem, gz, c0, c1]) rfl ?_
  exact ⟨p, a, c, bs, rfl, HL.out.1, hsm, HL.out.2⟩
set_option maxHeartbeats 8000000 in
theorem drawPck_at (W : World) (ca : Option Addr) (n cap : Nat) (l : List Int) (hB : BytesAt W ca n l) (hn : n ≤ 1048576) : Calls Tryz.prog 6 #[.slice ca n cap] W (RetGk W) := by
  have ba := belAl W (.cells #[.int .i64 0, .slice none 0 0] 26)
  have Z := Lib.hid (Zer2.at W 26)
  have hBu := BytesAt.below hB ba
  have hzu : (W.alloc (.cells #[.int .i64 0, .slice none 0 0] 26)).heap.size = W.heap.size + 1 := by simp
  have BA := Lib.hid ba
  clear hB ba
  go_enter Tryz.func6, Tryz.ntmps6
  go_wp2_with fail
  generalize (W.alloc (.cells #[.int .i64 0, .slice none 0 0] 26)) = u at *
  have HN := Lib.hid (l1New_at u ca n cap l hBu hn)
  have HON : Hid (∀ (m : Int) w9 g, 1 ≤ m ∧ m ≤ 256 → Drw u w9 g ca n cap l → Calls Tryz.prog 58 #[.pointer (some ⟨g, 0, none⟩), .int .i64 m] w9 (RetDb u w9 g ca n cap l)) := Lib.hid fun m w9 g hm h9 => l1Once_at u w9 g ca n cap l hBu (by omega) h9 m hm
  have HA : Hid (∀ w9 g, Drw u w9 g ca n cap l → Calls Tryz.prog 57 #[.pointer (some ⟨g, 0, none⟩)] w9 (RetDg u w9 g ca n cap l fun p bs => bs.length ≤ 25)) := Lib.hid fun w9 g h9 => l2Any_at u w9 g ca n cap l hBu (by omega) h9
  have HPK : Hid (∀ w9 g, Drw u w9 g ca n cap l → Calls Tryz.prog 45 #[.pointer (some ⟨g, 0, none⟩)] w9 (RetPd u w9 g ca n cap l)) := Lib.hid fun w9 g h9 => l8Packed_at u w9 g ca n cap l hBu (by omega) h9
  have HSO : Hid (∀ w9 g (p : Int) (a : Option Addr) (N c : Nat), N ≤ 1000 → Drw u w9 g ca n cap l → Calls Tryz.prog 60 #[.pointer (some ⟨g, 0, none⟩), .agg #[.int .i64 p, .slice a N c]] w9 (RetDl u w9 g ca n cap l (N + 1))) := Lib.hid fun w9 g p a N c hN h9 => l5Some_at u w9 g ca n cap l hBu (by omega) h9 p a N c hN
  have hzu1 : W.heap.size < u.heap.size := by omega
  clear hBu hzu
  refine HN.out.mono ?_
  rintro e w1 ⟨g, rfl, d1⟩
  have D := Lib.hid d1
  have hz1 := d1.bel.size
  have hg0 := d1.low
  have hg1 := d1.hi
  have B := Lib.hid (BA.out.step d1.bel)
  replace Z := Lib.hid (Z.out.below d1.bel)
  clear d1 HN BA
  go_wp2_with fail
  refine (HPK.out w1 g D.out).mono ?_
  rintro e w2 ⟨p, a, c, bs, k, rfl, ob, hsm, d2, k2⟩
  have ba := belAl w2 (.cells #[.int .i64 p, .slice a bs.length c] 26)
  have hbx : BoxGr (w2.alloc (.cells #[.int .i64 p, .slice a bs.length c] 26)) w2.heap.size p a bs.length c := BoxGr.at rfl
  have HL := Lib.hid (layG (p := p) ((B.out.trans (k2.below B.out.size fun k h1 h2 => by omega)).step ba) (OwnBars.below ob ba) (by omega))
  have Z2 := (Z.out.kept k2 (by omega)).below ba
  obtain ⟨⟨z1, z2, z3, c0, c1⟩, ⟨f0, f1⟩, gz⟩ := Z2
  obtain ⟨zB, cB0, cB1⟩ := hbx
  clear ob d2 k2 D B Z HA HON HPK HSO ba
  go_wp2_with fail
  refine bodyPost_ret (v := .tuple #[.agg #[.int .i64 p, .slice a bs.length c], .int .i64 k]) (by simp [results, Tryz.results6, go_sem, gz, c0, c1]) rfl ?_
  exact ⟨p, a, c, bs, k, rfl, HL.out.1, hsm, HL.out.2⟩
set_option maxHeartbeats 8000000 in
theorem drawSpt_at (W : World) (ca : Option Addr) (n cap : Nat) (l : List Int) (hB : BytesAt W ca n l) (hn : n ≤ 1048576) : Calls Tryz.prog 12 #[.slice ca n cap] W (RetGv W) := by
  have ba := belAl W (.cells #[.int .i64 0, .slice none 0 0] 26)
  have Z := Lib.hid (Zer2.at W 26)
  have hBu := BytesAt.below hB ba
  have hzu : (W.alloc (.cells #[.int .i64 0, .slice none 0 0] 26)).heap.size = W.heap.size + 1 := by simp
  have BA := Lib.hid ba
  clear hB ba
  go_enter Tryz.func12, Tryz.ntmps12
  go_wp2_with fail
  generalize (W.alloc (.cells #[.int .i64 0, .slice none 0 0] 26)) = u at *
  have HN := Lib.hid (l1New_at u ca n cap l hBu hn)
  have HON : Hid (∀ (m : Int) w9 g, 1 ≤ m ∧ m ≤ 256 → Drw u w9 g ca n cap l → Calls Tryz.prog 58 #[.pointer (some ⟨g, 0, none⟩), .int .i64 m] w9 (RetDb u w9 g ca n cap l)) := Lib.hid fun m w9 g hm h9 => l1Once_at u w9 g ca n cap l hBu (by omega) h9 m hm
  have HA : Hid (∀ w9 g, Drw u w9 g ca n cap l → Calls Tryz.prog 57 #[.pointer (some ⟨g, 0, none⟩)] w9 (RetDg u w9 g ca n cap l fun p bs => bs.length ≤ 25)) := Lib.hid fun w9 g h9 => l2Any_at u w9 g ca n cap l hBu (by omega) h9
  have HPK : Hid (∀ w9 g, Drw u w9 g ca n cap l → Calls Tryz.prog 45 #[.pointer (some ⟨g, 0, none⟩)] w9 (RetPd u w9 g ca n cap l)) := Lib.hid fun w9 g h9 => l8Packed_at u w9 g ca n cap l hBu (by omega) h9
  have HSO : Hid (∀ w9 g (p : Int) (a : Option Addr) (N c : Nat), N ≤ 1000 → Drw u w9 g ca n cap l → Calls Tryz.prog 60 #[.pointer (some ⟨g, 0, none⟩), .agg #[.int .i64 p, .slice a N c]] w9 (RetDl u w9 g ca n cap l (N + 1))) := Lib.hid fun w9 g p a N c hN h9 => l5Some_at u w9 g ca n cap l hBu (by omega) h9 p a N c hN
  have hzu1 : W.heap.size < u.heap.size := by omega
  clear hBu hzu
  refine HN.out.mono ?_
  rintro e w1 ⟨g, rfl, d1⟩
  have D := Lib.hid d1
  have hz1 := d1.bel.size
  have hg0 := d1.low
  have hg1 := d1.hi
  have B := Lib.hid (BA.out.step d1.bel)
  replace Z := Lib.hid (Z.out.below d1.bel)
  clear d1 HN BA
  go_wp2_with fail
  refine (HA.out w1 g D.out).mono ?_
  rintro e w2 ⟨p, a, c, bs, rfl, ob, hsm, d2, k2⟩
  have ba := belAl w2 (.cells #[.int .i64 p, .slice a bs.length c] 26)
  have hbx : BoxGr (w2.alloc (.cells #[.int .i64 p, .slice a bs.length c] 26)) w2.heap.size p a bs.length c := BoxGr.at rfl
  have hz2 := k2.size
  have F := Lib.hid (TdS.mk (d2.below ba) ((B.out.trans (k2.below B.out.size fun k h1 h2 => by omega)).step ba) ((Z.out.kept k2 (by omega)).below ba) hbx (OwnBars.below ob ba))
  obtain ⟨gt, hgt0⟩ : ∃ q, q = w2.heap.size := ⟨_, rfl⟩
  have hgW : W.heap.size < g := by omega
  have hgt : g < gt := by omega
  have hglo : g < w1.heap.size := hg1
  rw [← hgt0] at F
  clear ob d2 k2 D B Z ba hbx
  go_wp2_with fail
  try rw [← hgt0]
  generalize (w2.alloc (.cells #[.int .i64 p, .slice a bs.length c] 26)) = w3 at *
  have hgtW : W.heap.size < gt := by omega
  clear hgt0 hz2
  refine (HON.out 2 w3 g (by decide) F.out.dr).mono ?_
  rintro e w4 ⟨bq, rfl, d1, k1⟩
  replace F := Lib.hid (F.out.draw d1 k1 hgW hgt hglo)
  clear d1 k1
  cases bq
  · skip
    obtain ⟨zB, cB0, cB1⟩ := F.out.bx
    go_wp2_with fail
    clear zB cB0 cB1
    have FD := Lib.hid (F.out.below (w' := w4.drew) (Below.refl _ _).drew)
    have s0 : w4.drew.cell? ⟨gt, 0, none⟩ = some (.int .i64 p) ∧ w4.drew.cell? ⟨gt, 1, none⟩ = some (.slice a bs.length c) ∧ True := ⟨FD.out.bx.2.1, FD.out.bx.2.2, trivial⟩
    refine wp_regionZ (fun w9 => w9.cell? ⟨gt, 0, none⟩ = some (.int .i64 p) ∧ w9.cell? ⟨gt, 1, none⟩ = some (.slice a bs.length c) ∧ True) 5 (by kernel_rfl) ?_
    clear F
    generalize w4.drew = wd at *
    refine wpAnyZ_takeC (i := 0) (v := ?_) [5] rfl (by kernel_rfl) (by kernel_rfl) (by kernel_rfl) (by kernel_rfl) (by kernel_rfl) (by kernel_rfl) (fun _ _ _ h => h) (s0) (by rfl) ?_ ?_
    rotate_left
    · intro x hx; obtain ⟨u1, u2, u3⟩ := hx; go_simp; try (with_reducible rfl)
    try simp only [Act.put, List.setIfInBounds_toArray, List.set_cons_zero, List.set_cons_succ, List.getElem_toArray, List.getElem_cons_zero, List.getElem_cons_succ]
    refine wpAnyZ_takeC (i := 1) (v := ?_) [5] rfl (by kernel_rfl) (by kernel_rfl) (by kernel_rfl) (by kernel_rfl) (by kernel_rfl) (by kernel_rfl) (fun _ _ _ h => h) (s0) (by rfl) ?_ ?_
    rotate_left
    · intro x hx; obtain ⟨u1, u2, u3⟩ := hx; go_simp; try (with_reducible rfl)
    try simp only [Act.put, List.setIfInBounds_toArray, List.set_cons_zero, List.set_cons_succ, List.getElem_toArray, List.getElem_cons_zero, List.getElem_cons_succ]
    refine wpAnyZ_takeC (i := 2) (v := ?_) [5] rfl (by kernel_rfl) (by kernel_rfl) (by kernel_rfl) (by kernel_rfl) (by kernel_rfl) (by kernel_rfl) (fun _ _ _ h => h) (s0) (by rfl) ?_ ?_
    rotate_left
    · intro x hx; obtain ⟨u1, u2, u3⟩ := hx; go_simp; try (with_reducible rfl)
    try simp only [Act.put, List.setIfInBounds_toArray, List.set_cons_zero, List.set_cons_succ, List.getElem_toArray, List.getElem_cons_zero, List.getElem_cons_succ]
    refine wpAnyZ_step (i := 3) (by kernel_rfl) rfl (by rfl) ?_
    intro KK hKK
    go_simp
    go_at_call 60
    refine (HSO.out wd g p a bs.length c (by omega) FD.out.dr).mono ?_
    rintro e w9 ⟨vv, v, rfl, ho, hvl0, d9, k9⟩
    obtain ⟨va, vc, rfl, fv⟩ := OwnInts.fr ho
    have hvl : v.length ≤ 1000 := by omega
    have F9 := Lib.hid (FD.out.draw d9 k9 hgW hgt hglo)
    have V9 := Lib.hid (fv.low (lo' := u.heap.size) FD.out.dr.bel.size)
    clear ho d9 k9 fv FD s0
    have s9 : w9.cell? ⟨gt, 0, none⟩ = some (.int .i64 p) ∧ w9.cell? ⟨gt, 1, none⟩ = some (.slice a bs.length c) ∧ True := ⟨F9.out.bx.2.1, F9.out.bx.2.2, trivial⟩
    go_wp2_with fail
    refine hKK.out _ _ (.inr s9) ?_
    clear hKK KK
    try simp only [Act.put, List.setIfInBounds_toArray, List.set_cons_zero, List.set_cons_succ, List.getElem_toArray, List.getElem_cons_zero, List.getElem_cons_succ]
    obtain ⟨⟨z1, z2, z3, c0, c1⟩, ⟨f0, f1⟩, gz⟩ := F9.out.z
    have sF : ((w9.setCell ⟨W.heap.size, 0, none⟩ (.int .i64 p)).setCell ⟨W.heap.size, 1, none⟩ (.slice a bs.length c)).cell? ⟨gt, 0, none⟩ = some (.int .i64 p) ∧ ((w9.setCell ⟨W.heap.size, 0, none⟩ (.int .i64 p)).setCell ⟨W.heap.size, 1, none⟩ (.slice a bs.length c)).cell? ⟨gt, 1, none⟩ = some (.slice a bs.length c) ∧ True := by
      have kk : Kept (fun q => q = W.heap.size) w9 ((w9.setCell ⟨W.heap.size, 0, none⟩ (.int .i64 p)).setCell ⟨W.heap.size, 1, none⟩ (.slice a bs.length c)) := (keptSet' (S := fun q => q = W.heap.size) rfl).trans (keptSet' (S := fun q => q = W.heap.size) rfl)
      have hx := F9.out.bx.kept kk (by omega)
      exact ⟨hx.2.1, hx.2.2, trivial⟩
    have HL := Lib.hid (layG (p := p) F9.out.bl F9.out.ob (by omega))
    have HV := Lib.hid ((((V9.out.set (i := 0) (x := .int .i64 p) hzu1).set (i := 1) (x := .slice a bs.length c) hzu1)).low (lo' := W.heap.size) (by omega))
    refine wpAnyZ_step (i := 4) (by kernel_rfl) rfl (by rfl) ?_
    intro KK hKK
    go_simp
    refine hKK.out _ _ (.inr sF) ?_
    clear hKK KK
    try simp only [Act.put, List.setIfInBounds_toArray, List.set_cons_zero, List.set_cons_succ, List.getElem_toArray, List.getElem_cons_zero, List.getElem_cons_succ]
    refine wpAnyZ_step (i := 5) (by kernel_rfl) rfl (by rfl) ?_
    intro KK hKK
    go_simp
    refine hKK.out _ _ (.inl (by kernel_rfl)) ?_
    clear hKK KK
    try simp only [Act.put, List.setIfInBounds_toArray, List.set_cons_zero, List.set_cons_succ, List.getElem_toArray, List.getElem_cons_zero, List.getElem_cons_succ]
    refine wpAnyZ_done (by kernel_rfl) ?_ _
    go_wp2_with fail
    refine bodyPost_ret (v := .tuple #[.agg #[.int .i64 p, .slice a bs.length c], .slice va v.length vc]) (by simp [results, Tryz.results12, go_sem, gz, c0, c1]) rfl ?_
    exact ⟨p, a, c, bs, va, vc, v, rfl, HL.out.1, HV.out, ⟨hsm, hvl⟩, HL.out.2⟩
  · skip
    obtain ⟨zB, cB0, cB1⟩ := F.out.bx
    go_wp2_with fail
    clear zB cB0 cB1
    have FD := Lib.hid (F.out.below (w' := w4.drew) (Below.refl _ _).drew)
    have s0 : w4.drew.cell? ⟨gt, 0, none⟩ = some (.int .i64 p) ∧ w4.drew.cell? ⟨gt, 1, none⟩ = some (.slice a bs.length c) ∧ True := ⟨FD.out.bx.2.1, FD.out.bx.2.2, trivial⟩
    refine wp_regionZ (fun w9 => w9.cell? ⟨gt, 0, none⟩ = some (.int .i64 p) ∧ w9.cell? ⟨gt, 1, none⟩ = some (.slice a bs.length c) ∧ True) 4 (by kernel_rfl) ?_
    clear F
    generalize w4.drew = wd at *
    refine wpAnyZ_takeC (i := 0) (v := ?_) [4] rfl (by kernel_rfl) (by kernel_rfl) (by kernel_rfl) (by kernel_rfl) (by kernel_rfl) (by kernel_rfl) (fun _ _ _ h => h) (s0) (by rfl) ?_ ?_
    rotate_left
    · intro x hx; obtain ⟨u1, u2, u3⟩ := hx; go_simp; try (with_reducible rfl)
    try simp only [Act.put, List.setIfInBounds_toArray, List.set_cons_zero, List.set_cons_succ, List.getElem_toArray, List.getElem_cons_zero, List.getElem_cons_succ]
    refine wpAnyZ_takeC (i := 1) (v := ?_) [4] rfl (by kernel_rfl) (by kernel_rfl) (by kernel_rfl) (by kernel_rfl) (by kernel_rfl) (by kernel_rfl) (fun _ _ _ h => h) (s0) (by rfl) ?_ ?_
    rotate_left
    · intro x hx; obtain ⟨u1, u2, u3⟩ := hx; go_simp; try (with_reducible rfl)
    try simp only [Act.put, List.setIfInBounds_toArray, List.set_cons_zero, List.set_cons_succ, List.getElem_toArray, List.getElem_cons_zero, List.getElem_cons_succ]
    refine wpAnyZ_step (i := 2) (by kernel_rfl) rfl (by rfl) ?_
    intro KK hKK
    go_simp
    go_at_call 59
    refine (specAcc_at wd p a c bs (ownBars_at FD.out.ob) (by omega) 1 1).mono ?_
    rintro e w9 ⟨vv, v, rfl, ho, hvl, b9⟩
    obtain ⟨va, vc, rfl, fv⟩ := OwnInts.fr ho
    have F9 := Lib.hid (FD.out.below b9)
    have V9 := Lib.hid (fv.low (lo' := u.heap.size) FD.out.dr.bel.size)
    clear ho b9 fv FD s0
    have s9 : w9.cell? ⟨gt, 0, none⟩ = some (.int .i64 p) ∧ w9.cell? ⟨gt, 1, none⟩ = some (.slice a bs.length c) ∧ True := ⟨F9.out.bx.2.1, F9.out.bx.2.2, trivial⟩
    go_wp2_with fail
    refine hKK.out _ _ (.inr s9) ?_
    clear hKK KK
    try simp only [Act.put, List.setIfInBounds_toArray, List.set_cons_zero, List.set_cons_succ, List.getElem_toArray, List.getElem_cons_zero, List.getElem_cons_succ]
    obtain ⟨⟨z1, z2, z3, c0, c1⟩, ⟨f0, f1⟩, gz⟩ := F9.out.z
    have sF : ((w9.setCell ⟨W.heap.size, 0, none⟩ (.int .i64 p)).setCell ⟨W.heap.size, 1, none⟩ (.slice a bs.length c)).cell? ⟨gt, 0, none⟩ = some (.int .i64 p) ∧ ((w9.setCell ⟨W.heap.size, 0, none⟩ (.int .i64 p)).setCell ⟨W.heap.size, 1, none⟩ (.slice a bs.length c)).cell? ⟨gt, 1, none⟩ = some (.slice a bs.length c) ∧ True := by
      have kk : Kept (fun q => q = W.heap.size) w9 ((w9.setCell ⟨W.heap.size, 0, none⟩ (.int .i64 p)).setCell ⟨W.heap.size, 1, none⟩ (.slice a bs.length c)) := (keptSet' (S := fun q => q = W.heap.size) rfl).trans (keptSet' (S := fun q => q = W.heap.size) rfl)
      have hx := F9.out.bx.kept kk (by omega)
      exact ⟨hx.2.1, hx.2.2, trivial⟩
    have HL := Lib.hid (layG (p := p) F9.out.bl F9.out.ob (by omega))
    have HV := Lib.hid ((((V9.out.set (i := 0) (x := .int .i64 p) hzu1).set (i := 1) (x := .slice a bs.length c) hzu1)).low (lo' := W.heap.size) (by omega))
    refine wpAnyZ_step (i := 3) (by kernel_rfl) rfl (by rfl) ?_
    intro KK hKK
    go_simp
    refine hKK.out _ _ (.inr sF) ?_
    clear hKK KK
    try simp only [Act.put, List.setIfInBounds_toArray, List.set_cons_zero, List.set_cons_succ, List.getElem_toArray, List.getElem_cons_zero, List.getElem_cons_succ]
    refine wpAnyZ_step (i := 4) (by kernel_rfl) rfl (by rfl) ?_
    intro KK hKK
    go_simp
    refine hKK.out _ _ (.inl (by kernel_rfl)) ?_
    clear hKK KK
    try simp only [Act.put, List.setIfInBounds_toArray, List.set_cons_zero, List.set_cons_succ, List.getElem_toArray, List.getElem_cons_zero, List.getElem_cons_succ]
    refine wpAnyZ_done (by kernel_rfl) ?_ _
    go_wp2_with fail
    refine bodyPost_ret (v := .tuple #[.agg #[.int .i64 p, .slice a bs.length c], .slice va v.length vc]) (by simp [results, Tryz.results12, go_sem, gz, c0, c1]) rfl ?_
    exact ⟨p, a, c, bs, va, vc, v, rfl, HL.out.1, HV.out, ⟨hsm, hvl⟩, HL.out.2⟩
set_option maxHeartbeats 8000000 in
theorem drawFor_at (W : World) (ca : Option Addr) (n cap : Nat) (l : List Int) (hB : BytesAt W ca n l) (hn : n ≤ 1048576) : Calls Tryz.prog 18 #[.slice ca n cap] W (RetGv W) := by
  have ba := belAl W (.cells #[.int .i64 0, .slice none 0 0] 26)
  have Z := Lib.hid (Zer2.at W 26)
  have hBu := BytesAt.below hB ba
  have hzu : (W.alloc (.cells #[.int .i64 0, .slice none 0 0] 26)).heap.size = W.heap.size + 1 := by simp
  have BA := Lib.hid ba
  clear hB ba
  go_enter Tryz.func18, Tryz.ntmps18
  go_wp2_with fail
  generalize (W.alloc (.cells #[.int .i64 0, .slice none 0 0] 26)) = u at *
  have HN := Lib.hid (l1New_at u ca n cap l hBu hn)
  have HON : Hid (∀ (m : Int) w9 g, 1 ≤ m ∧ m ≤ 256 → Drw u w9 g ca n cap l → Calls Tryz.prog 58 #[.pointer (some ⟨g, 0, none⟩), .int .i64 m] w9 (RetDb u w9 g ca n cap l)) := Lib.hid fun m w9 g hm h9 => l1Once_at u w9 g ca n cap l hBu (by omega) h9 m hm
  have HA : Hid (∀ w9 g, Drw u w9 g ca n cap l → Calls Tryz.prog 57 #[.pointer (some ⟨g, 0, none⟩)] w9 (RetDg u w9 g ca n cap l fun p bs => bs.length ≤ 25)) := Lib.hid fun w9 g h9 => l2Any_at u w9 g ca n cap l hBu (by omega) h9
  have HPK : Hid (∀ w9 g, Drw u w9 g ca n cap l → Calls Tryz.prog 45 #[.pointer (some ⟨g, 0, none⟩)] w9 (RetPd u w9 g ca n cap l)) := Lib.hid fun w9 g h9 => l8Packed_at u w9 g ca n cap l hBu (by omega) h9
  have HSO : Hid (∀ w9 g (p : Int) (a : Option Addr) (N c : Nat), N ≤ 1000 → Drw u w9 g ca n cap l → Calls Tryz.prog 60 #[.pointer (some ⟨g, 0, none⟩), .agg #[.int .i64 p, .slice a N c]] w9 (RetDl u w9 g ca n cap l (N + 1))) := Lib.hid fun w9 g p a N c hN h9 => l5Some_at u w9 g ca n cap l hBu (by omega) h9 p a N c hN
  have hzu1 : W.heap.size < u.heap.size := by omega
  clear hBu hzu
  refine HN.out.mono ?_
  rintro e w1 ⟨g, rfl, d1⟩
  have D := Lib.hid d1
  have hz1 := d1.bel.size
  have hg0 := d1.low
  have hg1 := d1.hi
  have B := Lib.hid (BA.out.step d1.bel)
  replace Z := Lib.hid (Z.out.below d1.bel)
  clear d1 HN BA
  go_wp2_with fail
  refine (HA.out w1 g D.out).mono ?_
  rintro e w2 ⟨p, a, c, bs, rfl, ob, hsm, d2, k2⟩
  have ba := belAl w2 (.cells #[.int .i64 p, .slice a bs.length c] 26)
  have hbx : BoxGr (w2.alloc (.cells #[.int .i64 p, .slice a bs.length c] 26)) w2.heap.size p a bs.length c := BoxGr.at rfl
  have hz2 := k2.size
  have F := Lib.hid (TdS.mk (d2.below ba) ((B.out.trans (k2.below B.out.size fun k h1 h2 => by omega)).step ba) ((Z.out.kept k2 (by omega)).below ba) hbx (OwnBars.below ob ba))
  obtain ⟨gt, hgt0⟩ : ∃ q, q = w2.heap.size := ⟨_, rfl⟩
  have hgW : W.heap.size < g := by omega
  have hgt : g < gt := by omega
  have hglo : g < w1.heap.size := hg1
  rw [← hgt0] at F
  clear ob d2 k2 D B Z ba hbx
  go_wp2_with fail
  try rw [← hgt0]
  generalize (w2.alloc (.cells #[.int .i64 p, .slice a bs.length c] 26)) = w3 at *
  have hgtW : W.heap.size < gt := by omega
  clear hgt0 hz2
  obtain ⟨zB, cB0, cB1⟩ := F.out.bx
  go_wp2_with fail
  clear zB cB0 cB1
  have hz3 := F.out.dr.bel.size
  have hg3 := F.out.dr.hi
  refine (HSO.out w3 g p a bs.length c (by omega) F.out.dr).mono ?_
  rintro e w4 ⟨vv, v, rfl, ho, hvl0, d9, k9⟩
  replace F := Lib.hid (F.out.draw d9 k9 hgW hgt hglo)
  have OV := Lib.hid ho
  obtain ⟨va, vc, rfl, -⟩ := ho.form
  have hvl : v.length ≤ 1000 := by omega
  clear ho d9 k9
  by_cases h3 : 3 < v.length
  · have h3i : (3 : Int) < (v.length : Int) := by omega
    go_wp2_with fail
    refine (HON.out 2 w4 g (by decide) F.out.dr).mono ?_
    rintro e w5 ⟨bq, rfl, d1, k1⟩
    replace F := Lib.hid (F.out.draw d1 k1 hgW hgt hglo)
    replace OV := Lib.hid (OV.out.on k1 hg3)
    clear d1 k1
    cases bq
    · obtain ⟨a9, c9, e9, fv⟩ := OwnInts.fr OV.out
      simp at e9
      obtain ⟨rfl, rfl⟩ := e9
      have FV := Lib.hid (fv.low (lo' := u.heap.size) hz3)
      clear fv
      obtain ⟨zB, cB0, cB1⟩ := F.out.bx
      obtain ⟨⟨z1, z2, z3, c0, c1⟩, ⟨f0, f1⟩, gz⟩ := F.out.z
      have HL := Lib.hid (layG (p := p) F.out.bl F.out.ob (by omega))
      have HV := Lib.hid ((((FV.out.set (i := 0) (x := .int .i64 p) hzu1).set (i := 1) (x := .slice a bs.length c) hzu1)).low (lo' := W.heap.size) (by omega))
      go_wp2_with fail
      refine bodyPost_ret (v := .tuple #[.agg #[.int .i64 p, .slice a bs.length c], .slice va v.length vc]) (by simp [results, Tryz.results18, go_sem, gz, c0, c1]) rfl ?_
      exact ⟨p, a, c, bs, va, vc, v, rfl, HL.out.1, HV.out, ⟨hsm, hvl⟩, HL.out.2⟩
    · obtain ⟨b, d2, e2, hd1, hd2, hbk, hbk2⟩ := rowBlkT OV.out (by omega)
      simp at e2
      obtain ⟨rfl, rfl⟩ := e2
      have hcut := fun w => cutInts (b := b) (n := v.length) (c := vc) (by omega) hd1 hd2 w
      obtain ⟨a9, c9, e9, fv⟩ := OwnInts.fr OV.out
      simp at e9
      obtain ⟨rfl, rfl⟩ := e9
      have hl3 : (v.take 3).length = 3 := by rw [List.length_take]; omega
      have FV : Hid (FrInts w5 u.heap.size (some ⟨b, 0, none⟩) (v.take 3)) := Lib.hid ⟨by rw [hl3]; exact IntsAt.takeN' fv.at' (by omega), fun g off e => by have := fv.la g off e; omega⟩
      have HL3 := Lib.hid hl3
      clear fv hl3 hd1 hd2 hbk hbk2
      obtain ⟨zB, cB0, cB1⟩ := F.out.bx
      obtain ⟨⟨z1, z2, z3, c0, c1⟩, ⟨f0, f1⟩, gz⟩ := F.out.z
      have HL := Lib.hid (layG (p := p) F.out.bl F.out.ob (by omega))
      have HV := Lib.hid ((((FV.out.set (i := 0) (x := .int .i64 p) hzu1).set (i := 1) (x := .slice a bs.length c) hzu1)).low (lo' := W.heap.size) (by omega))
      go_wp2_with fail
      refine bodyPost_ret (v := .tuple #[.agg #[.int .i64 p, .slice a bs.length c], .slice (some ⟨b, 0, none⟩) 3 vc]) (by simp [results, Tryz.results18, go_sem, gz, c0, c1]) rfl ?_
      exact ⟨p, a, c, bs, (some ⟨b, 0, none⟩), vc, v.take 3, by rw [HL3.out], HL.out.1, HV.out, ⟨hsm, by rw [HL3.out]; omega⟩, HL.out.2⟩
  · have h3i : ¬ (3 : Int) < (v.length : Int) := by omega
    obtain ⟨a9, c9, e9, fv⟩ := OwnInts.fr OV.out
    simp at e9
    obtain ⟨rfl, rfl⟩ := e9
    have FV := Lib.hid (fv.low (lo' := u.heap.size) hz3)
    clear fv
    obtain ⟨zB, cB0, cB1⟩ := F.out.bx
    obtain ⟨⟨z1, z2, z3, c0, c1⟩, ⟨f0, f1⟩, gz⟩ := F.out.z
    have HL := Lib.hid (layG (p := p) F.out.bl F.out.ob (by omega))
    have HV := Lib.hid ((((FV.out.set (i := 0) (x := .int .i64 p) hzu1).set (i := 1) (x := .slice a bs.length c) hzu1)).low (lo' := W.heap.size) (by omega))
    go_wp2_with fail
    refine bodyPost_ret (v := .tuple #[.agg #[.int .i64 p, .slice a bs.length c], .slice va v.length vc]) (by simp [results, Tryz.results18, go_sem, gz, c0, c1]) rfl ?_
    exact ⟨p, a, c, bs, va, vc, v, rfl, HL.out.1, HV.out, ⟨hsm, hvl⟩, HL.out.2⟩
end Go.Proofs.YtfbmpkdjhhcnpaaGreat

namespace Go.Proofs.YtfbmpkdjhhcnpaaGreat
open Go.RowKit
set_option maxRecDepth 100000
set_option linter.unusedVariables false
set_option linter.unusedSimpArgs false
def bitB (m : Nat) (v : Nat) : Bool := m / 2 ^ v % 2 == 1
def maskL (m : Nat) : Nat → List Int
  | 0 => []
  | v + 1 => maskL m v ++ (if bitB m v = true then [(v : Int)] else [])
theorem and_one (n : Int) : bits .and .i64 n 1 = n % 2 := by
  have h127 : (BitVec.ofInt 64 1).toNat = 2 ^ 1 - 1 := by decide
  have key : (BitVec.ofInt 64 n &&& BitVec.ofInt 64 1).toNat = (n % ((2 ^ 64 : Nat) : Int)).toNat % 2 ^ 1 := by
    rw [BitVec.toNat_and, BitVec.toNat_ofInt, h127, Nat.and_two_pow_sub_one_eq_mod]
  show IntKind.i64.wrap ((BitVec.ofInt 64 n &&& BitVec.ofInt 64 1).toNat : Nat) = n % 2
  rw [key, IntKind.wrap_i64]
  omega
theorem bit_and (m k : Nat) : (bits .and .i64 ((m : Int) / 2 ^ k) 1 == 1) = bitB m k := by
  have h1 : ((m : Int) / 2 ^ k) = ((m / 2 ^ k : Nat) : Int) := by rw [Int.natCast_ediv, Int.natCast_pow]; rfl
  rw [h1, and_one]
  unfold bitB
  rw [Bool.eq_iff_iff, beq_iff_eq, beq_iff_eq]
  omega
theorem made_intsS (W : World) : OwnInts (W.alloc (.cells #[] 3)) W.heap.size (.slice (some ⟨W.heap.size, 0, none⟩) 0 0) [] := World.ownsRow_made W #[] 0 (Nat.le_refl _) (Nat.zero_le _) rfl
theorem maskL_len (m : Nat) : ∀ v, (maskL m v).length ≤ v
  | 0 => Nat.le_refl _
  | v + 1 => by
    have := maskL_len m v
    unfold maskL
    rw [List.length_append]
    split <;> simp <;> omega
set_option maxHeartbeats 2000000 in
theorem l3Set_at (W : World) (p m : Nat) (hp : p ≤ 8) (hm : m < 256) :
    Calls Tryz.prog 127 #[.int .i64 (p : Int), .int .i64 (m : Int)] W (RetInts W (maskL m p)) := by
  go_enter Tryz.func127, Tryz.ntmps127
  go_wp2_with fail
  go_loopw [5, 6] (fun o i w9 => ∃ k : Nat, k ≤ p ∧ i = .int .i64 k ∧ OwnInts w9 W.heap.size o (maskL m k) ∧ Below W.heap.size W w9) (fun _ i _ => p - (intOf i).toNat)
  case atStart => exact ⟨0, Nat.zero_le _, rfl, made_intsS W, belAl W _⟩
  case round =>
    obtain ⟨k, hk, rfl, ho, hb⟩ := hrel
    by_cases hlt : k < p
    · have hki : (k : Int) < (p : Int) := by omega
      have HB := bit_and m k
      have hlk := maskL_len m k
      have HO := Lib.hid ho
      clear ho
      cases hd : bitB m k
      · have HS := Lib.hid (show maskL m (k + 1) = maskL m k by conv => lhs; unfold maskL; rw [hd]; simp)
        rw [hd] at HB
        clear hd
        go_wp2_with fail
        go_roundw
        case rel => exact ⟨k + 1, by omega, by go_num, by rw [HS.out]; exact HO.out, hb⟩
        case measure => simp [intOf]; omega
      · have HS := Lib.hid (show maskL m (k + 1) = maskL m k ++ [(k : Int)] by conv => lhs; unfold maskL; rw [hd]; simp)
        rw [hd] at HB
        clear hd
        have hbz := hb.size
        go_wp2_with (at_builtin; refine app1At rfl (.tmp 18) (.tmp 20) rfl rfl HO.out (k : Int) rfl (by omega) (by omega) ?_; intro v5 w5 h5 k5 a5)
        go_roundw
        case rel => exact ⟨k + 1, by omega, by go_num, by rw [HS.out]; exact h5, hb.trans (k5.below (by omega) fun j h1 h2 => by have := (HO.out.lt j h2.symm).1; omega)⟩
        case measure => simp [intOf]; omega
    · obtain rfl : k = p := by omega
      go_wp2_with fail
      go_ret
      exact ⟨_, rfl, ho, hb⟩
end Go.Proofs.YtfbmpkdjhhcnpaaGreat

namespace Go.Proofs.YtfbmpkdjhhcnpaaGreat
open Go.RowKit
set_option maxRecDepth 100000
set_option linter.unusedVariables false
set_option linter.unusedSimpArgs false
/-- a bar lies within a set -/
def inS (l : List BarT) (s : List Int) (k : Nat) : Bool := match l[k]? with
  | some x => decide (x.1 ∈ s) && decide (x.2 ∈ s)
  | none => false
def spanL (l : List BarT) (s : List Int) : Nat → List Int
  | 0 => []
  | k + 1 => spanL l s k ++ (if inS l s k = true then [(k : Int)] else [])
theorem spanL_len (l : List BarT) (s : List Int) : ∀ k, (spanL l s k).length ≤ k
  | 0 => Nat.le_refl _
  | k + 1 => by
    have := spanL_len l s k
    unfold spanL
    rw [List.length_append]
    split <;> simp <;> omega
theorem spanL_no {l : List BarT} {s : List Int} {k : Nat} (h : inS l s k = false) : spanL l s (k + 1) = spanL l s k := by
  conv => lhs; unfold spanL; rw [h]
  simp
theorem spanL_yes {l : List BarT} {s : List Int} {k : Nat} (h : inS l s k = true) : spanL l s (k + 1) = spanL l s k ++ [(k : Int)] := by
  conv => lhs; unfold spanL; rw [h]
  simp
set_option maxHeartbeats 4000000 in
theorem specSpan_at (W : World) (p : Int) (a : Option Addr) (cap : Nat) (l : List BarT) (h : BarsAt W a l.length l) (hs : l.length ≤ 1048576) (va : Option Addr) (n vcap : Nat) (s : List Int) (hv : IntsAt W va n s) (hn : n ≤ 1048576) :
    Calls Tryz.prog 128 #[.agg #[.int .i64 p, .slice a l.length cap], .slice va n vcap] W (RetInts W (spanL l s l.length)) := by
  have hwd := @Wd.cells
  have HGr : Hid (IsGraph W (.agg #[.int .i64 p, .slice a l.length cap]) (p, l)) := Lib.hid ⟨a, cap, rfl, h⟩
  have H1 := Lib.hid h
  clear h
  have hsz : szGraph (p, l) ≤ 1048576 := hs
  have hsz2 : szGraph (p, l) ≤ 1099511627776 := Nat.le_trans hsz (by decide)
  have B : Below W.heap.size W (W.alloc (.cells #[.int .i64 p, .slice a l.length cap] 26)) := (Below.refl _ _).alloc (Nat.le_refl _) _
  have BG : Hid (BoxGr (W.alloc (.cells #[.int .i64 p, .slice a l.length cap] 26)) W.heap.size p a l.length cap) := Lib.hid (BoxGr.at rfl)
  have HV := Lib.hid hv
  clear hv
  have ba := belAl (W.alloc (.cells #[.int .i64 p, .slice a l.length cap] 26)) (.cells #[] 3)
  have HO0 : Hid (OwnInts ((W.alloc (.cells #[.int .i64 p, .slice a l.length cap] 26)).alloc (.cells #[] 3)) (W.heap.size + 1) (.slice (some ⟨W.heap.size + 1, 0, none⟩) 0 0) []) := Lib.hid (by have h9 := made_intsS (W.alloc (.cells #[.int .i64 p, .slice a l.length cap] 26)); simpa using h9)
  have hz : W.heap.size + 2 ≤ ((W.alloc (.cells #[.int .i64 p, .slice a l.length cap] 26)).alloc (.cells #[] 3)).heap.size := by simp
  replace B := B.step ba
  replace BG := Lib.hid (BG.out.below ba)
  clear ba
  go_enter Tryz.func128, Tryz.ntmps128
  go_wp2_with fail
  generalize ((W.alloc (.cells #[.int .i64 p, .slice a l.length cap] 26)).alloc (.cells #[] 3)) = u at *
  go_loopw [5, 6] (fun o i w9 => ∃ k : Nat, k ≤ l.length ∧ i = .int .i64 k ∧ OwnInts w9 (W.heap.size + 1) o (spanL l s k) ∧ Below W.heap.size W w9 ∧ BoxGr w9 W.heap.size p a l.length cap ∧ W.heap.size + 2 ≤ w9.heap.size) (fun _ i _ => l.length - (intOf i).toNat)
  case atStart => exact ⟨0, Nat.zero_le _, rfl, HO0.out, B, BG.out, hz⟩
  case round =>
    clear B BG HO0 hz
    obtain ⟨k, hk, rfl, ho, B, bg, hz⟩ := hrel
    have HO := Lib.hid ho
    have BG := Lib.hid bg
    clear ho bg
    have hlk := spanL_len l s k
    obtain ⟨zBG, fBG0, fBG1⟩ := BG.out
    by_cases hlt : k < l.length
    · obtain ⟨bb, off, ⟨x1, x2⟩, rfl, hbl, hx, hc0, hc1⟩ := (H1.out.below B).2 k hlt
      dsimp only at hc0 hc1
      have hki : (k : Int) < (l.length : Int) := by omega
      have hk0 : (0 : Int) ≤ (k : Int) := by omega
      have C1 := Lib.hid (l2Has_at wr va n vcap s (HV.out.below B) (by omega) x1)
      have C2 := Lib.hid (l2Has_at wr va n vcap s (HV.out.below B) (by omega) x2)
      have HI : Hid (inS l s k = (decide (x1 ∈ s) && decide (x2 ∈ s))) := Lib.hid (by unfold inS; rw [hx])
      clear hx
      cases d1 : decide (x1 ∈ s)
      · have HS := Lib.hid (spanL_no (show inS l s k = false by rw [HI.out, d1]; rfl))
        rw [d1] at C1
        clear d1
        go_wp2_with (go_at_call 73; refine C1.out.mono ?_; rintro e w1 ⟨rfl, rfl⟩)
        go_roundw
        case rel => exact ⟨k + 1, by omega, by go_num, by rw [HS.out]; exact HO.out, B, BG.out, hz⟩
        case measure => simp [intOf]; omega
      · cases d2 : decide (x2 ∈ s)
        · have HS := Lib.hid (spanL_no (show inS l s k = false by rw [HI.out, d1, d2]; rfl))
          rw [d1] at C1
          rw [d2] at C2
          clear d1 d2
          go_wp2_with fail
          refine C1.out.mono ?_
          rintro e w1 ⟨rfl, rfl⟩
          go_wp2_with fail
          refine C2.out.mono ?_
          rintro e w1 ⟨rfl, rfl⟩
          go_wp2_with fail
          go_roundw
          case rel => exact ⟨k + 1, by omega, by go_num, by rw [HS.out]; exact HO.out, B, BG.out, hz⟩
          case measure => simp [intOf]; omega
        · have HS := Lib.hid (spanL_yes (show inS l s k = true by rw [HI.out, d1, d2]; rfl))
          rw [d1] at C1
          rw [d2] at C2
          clear d1 d2
          go_wp2_with fail
          refine C1.out.mono ?_
          rintro e w1 ⟨rfl, rfl⟩
          go_wp2_with fail
          refine C2.out.mono ?_
          rintro e w1 ⟨rfl, rfl⟩
          go_wp2_with (at_builtin; refine app1At rfl (.tmp 33) (.tmp 35) rfl rfl HO.out (k : Int) rfl (by omega) (by omega) ?_; intro v5 w5 h5 k5 a5)
          go_roundw
          case rel => exact ⟨k + 1, by omega, by go_num, by rw [HS.out]; exact h5, B.trans (k5.below (by omega) fun j h1 h2 => by have := (HO.out.lt j h2.symm).1; omega), BG.out.kept k5 (fun e => by have := (HO.out.lt _ e.symm).1; omega), Nat.le_trans hz k5.size⟩
          case measure => simp [intOf]; omega
    · obtain rfl : k = l.length := by omega
      go_wp2_with fail
      go_ret
      exact ⟨_, rfl, ownsRow_base HO.out (by omega), B⟩
end Go.Proofs.YtfbmpkdjhhcnpaaGreat

namespace Go.Proofs.YtfbmpkdjhhcnpaaGreat
open Go.RowKit
set_option maxRecDepth 100000
set_option linter.unusedVariables false
set_option linter.unusedSimpArgs false
theorem mem_maskL (m : Nat) (x : Int) : ∀ p, x ∈ maskL m p ↔ (0 ≤ x ∧ x < p) ∧ bitB m x.toNat = true
  | 0 => by simp [maskL]; omega
  | v + 1 => by
    unfold maskL
    rw [List.mem_append, mem_maskL m x v]
    by_cases e : x = (v : Int)
    · subst e
      cases hb : bitB m v <;> simp [hb] <;> omega
    · have : x ∉ (if bitB m v = true then [(v : Int)] else []) := by split <;> simp [e]
      constructor
      · rintro (h | h)
        · exact ⟨⟨h.1.1, by omega⟩, h.2⟩
        · exact absurd h this
      · rintro ⟨h1, h2⟩
        exact .inl ⟨⟨h1.1, by omega⟩, h2⟩
/-- both ends of a bar lie in a mask -/
def bothB (m : Nat) (x : BarT) : Bool := bitB m x.1.toNat && bitB m x.2.toNat
/-- how many of the first bars lie in a mask -/
def spanM (l : List BarT) (m k : Nat) : Nat := ((l.take k).filter (bothB m)).length
theorem spanM_le (l : List BarT) (m k : Nat) : spanM l m k ≤ k := Nat.le_trans (List.length_filter_le _ _) (List.length_take_le _ _)
theorem spanM_succ {l : List BarT} {m k : Nat} {x : BarT} (h : l[k]? = some x) : spanM l m (k + 1) = spanM l m k + (if bothB m x = true then 1 else 0) := by
  unfold spanM
  rw [take_succ_of h, List.filter_append, List.length_append]
  cases hb : bothB m x <;> simp [hb]
theorem spanL_lenM {l : List BarT} {m p : Nat} (hr : ∀ x ∈ l, (0 ≤ x.1 ∧ x.1 < p) ∧ (0 ≤ x.2 ∧ x.2 < p)) : ∀ k, k ≤ l.length → (spanL l (maskL m p) k).length = spanM l m k
  | 0, _ => rfl
  | k + 1, hk => by
    have hx : l[k]? = some (l[k]'(by omega)) := List.getElem?_eq_getElem _
    have h1 := hr _ (List.mem_of_getElem? hx)
    have h2 : inS l (maskL m p) k = bothB m (l[k]'(by omega)) := by
      unfold inS bothB
      rw [hx]
      dsimp only
      congr 1
      · rw [Bool.eq_iff_iff, decide_eq_true_eq, mem_maskL]
        exact ⟨fun h => h.2, fun h => ⟨h1.1, h⟩⟩
      · rw [Bool.eq_iff_iff, decide_eq_true_eq, mem_maskL]
        exact ⟨fun h => h.2, fun h => ⟨h1.2, h⟩⟩
    rw [spanM_succ hx, ← spanL_lenM hr k (by omega)]
    cases hb : bothB m (l[k]'(by omega))
    · rw [spanL_no (h2.trans hb)]; simp
    · rw [spanL_yes (h2.trans hb), List.length_append]; simp
def sizeM (m p : Nat) : Nat := (maskL m p).length
theorem sizeM_le (m p : Nat) : sizeM m p ≤ p := maskL_len m p
theorem sizeM_succ (m v : Nat) : sizeM m (v + 1) = sizeM m v + (if bitB m v = true then 1 else 0) := by
  unfold sizeM
  conv => lhs; unfold maskL
  rw [List.length_append]
  cases hb : bitB m v <;> simp [hb]
/-- a mask whose bars are too many -/
def overAt (p : Nat) (l : List BarT) (k r : Int) (m : Nat) : Bool := decide (0 < spanM l m l.length) && decide (k * sizeM m p - r < spanM l m l.length)
theorem overAt_zero (p : Nat) (l : List BarT) (k r : Int) : overAt p l k r 0 = false := by
  have h0 : ∀ v, bitB 0 v = false := fun v => by unfold bitB; simp
  have h1 : ∀ x, bothB 0 x = false := fun x => by unfold bothB; rw [h0]; rfl
  unfold overAt spanM
  rw [List.filter_eq_nil_iff.2 fun x _ => by rw [h1]; simp]
  simp
def overB (p : Nat) (l : List BarT) (k r : Int) : Bool := (List.range (2 ^ p)).any (overAt p l k r)
theorem overB_yes {p : Nat} {l : List BarT} {k r : Int} {m : Nat} (hm : m < 2 ^ p) (h : overAt p l k r m = true) : overB p l k r = true := List.any_eq_true.2 ⟨m, List.mem_range.2 hm, h⟩
theorem overB_no {p : Nat} {l : List BarT} {k r : Int} (h : ∀ m, m < 2 ^ p → overAt p l k r m = false) : overB p l k r = false := by
  rw [Bool.eq_false_iff]
  intro hc
  obtain ⟨m, hm, h1⟩ := List.any_eq_true.1 hc
  rw [h m (List.mem_range.1 hm)] at h1
  exact Bool.noConfusion h1
/-- the answer of OvercountedSet -/
def ovcB (g : GraphT) (k r : Int) : Bool := (isGraphB g && rangeB k r) && overB g.1.toNat g.2 k r
def sparseB (g : GraphT) (k r : Int) : Bool := (isGraphB g && rangeB k r) && !overB g.1.toNat g.2 k r
def tightB (g : GraphT) (k r : Int) : Bool := sparseB g k r && ((g.2.length : Int) == max 0 (k * g.1 - r))
theorem isGraphB_ends {P : Nat} {l : List BarT} (h : isGraphB ((P : Int), l) = true) : ∀ x ∈ l, (0 ≤ x.1 ∧ x.1 < P) ∧ (0 ≤ x.2 ∧ x.2 < P) := by
  intro x hx
  obtain ⟨k, hk⟩ := List.getElem?_of_mem hx
  have := isGraphB_bar h hk
  omega
/-- two bits of a mask, as the program takes them -/
theorem and_bits (m a b : Nat) : bits .and .i64 (bits .and .i64 ((m : Int) / 2 ^ a) ((m : Int) / 2 ^ b)) 1 = (if (bitB m a && bitB m b) = true then 1 else 0) := by
  have e1 : ((m : Int) / 2 ^ a) = ((m / 2 ^ a : Nat) : Int) := by rw [Int.natCast_ediv, Int.natCast_pow]; rfl
  have e2 : ((m : Int) / 2 ^ b) = ((m / 2 ^ b : Nat) : Int) := by rw [Int.natCast_ediv, Int.natCast_pow]; rfl
  rw [and_one, e1, e2]
  have key : ∀ x y : Nat, bits .and .i64 (x : Int) (y : Int) % 2 = ((x % 2 * (y % 2) : Nat) : Int) := fun x y => by
    have k1 : (BitVec.ofInt 64 (x : Int) &&& BitVec.ofInt 64 (y : Int)).toNat % 2 = x % 2 * (y % 2) := by
      rw [BitVec.toNat_and, BitVec.ofInt_natCast, BitVec.ofInt_natCast, BitVec.toNat_ofNat, BitVec.toNat_ofNat]
      have h2 : ∀ u v : Nat, (u &&& v) % 2 = u % 2 * (v % 2) := fun u v => by
        have := Nat.and_mod_two_pow (a := u) (b := v) (n := 1)
        rw [show (2 : Nat) ^ 1 = 2 from rfl] at this
        rw [this]
        rcases Nat.mod_two_eq_zero_or_one u with h | h <;> rcases Nat.mod_two_eq_zero_or_one v with h' | h' <;> rw [h, h'] <;> rfl
      rw [h2]
      have : ∀ z : Nat, z % 2 ^ 64 % 2 = z % 2 := fun z => by omega
      rw [this, this]
    show IntKind.i64.wrap ((BitVec.ofInt 64 (x : Int) &&& BitVec.ofInt 64 (y : Int)).toNat : Nat) % 2 = _
    rw [← k1, IntKind.wrap_i64]
    omega
  rw [key]
  unfold bitB
  rcases Nat.mod_two_eq_zero_or_one (m / 2 ^ a) with h | h <;> rcases Nat.mod_two_eq_zero_or_one (m / 2 ^ b) with h' | h' <;> rw [h, h'] <;> rfl
theorem and_bit (m a : Nat) : bits .and .i64 ((m : Int) / 2 ^ a) 1 = (if bitB m a = true then 1 else 0) := by
  have h1 : ((m : Int) / 2 ^ a) = ((m / 2 ^ a : Nat) : Int) := by rw [Int.natCast_ediv, Int.natCast_pow]; rfl
  rw [h1, and_one]
  unfold bitB
  rcases Nat.mod_two_eq_zero_or_one (m / 2 ^ a) with h | h <;> rw [h] <;> simp <;> omega
end Go.Proofs.YtfbmpkdjhhcnpaaGreat

