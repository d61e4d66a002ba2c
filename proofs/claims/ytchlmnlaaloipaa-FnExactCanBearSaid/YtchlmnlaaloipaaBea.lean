/- BearingForces and CanBear of the reference and of the program. No condition but sizes. -/
import Derived.Test.YtchlmnlaaloipaaBea0
namespace Go.Proofs.Ytchlmnlaaloipaa
open Go.RowKit Gr
set_option maxRecDepth 100000
set_option linter.unusedVariables false
set_option linter.unusedSimpArgs false


set_option maxHeartbeats 8000000 in
theorem l13Solve_at (W : World) (p : Int) (a : Option Addr) (cap : Nat) (l : List BarT) (c : Option Addr) (capc : Nat) (q : List PlaceT) (h : BarsAt W a l.length l) (hq : PlacesAt W c q.length q) (hs : l.length + q.length ≤ 1048576) (va : Option Addr) (n vcap : Nat) (v : List Int) (hv : IntsAt W va n v) (hlb : loadB (p, l, q) v = true) :
    Calls Try.prog 42 #[.agg #[.int .i64 p, .slice a l.length cap, .slice c q.length capc], .slice va n vcap] W (RetIntss W (bearL (p, l, q) v)) := by
  have hwd := @Wd.cells
  have HFw : Hid (IsFw W (.agg #[.int .i64 p, .slice a l.length cap, .slice c q.length capc]) (p, l, q)) := Lib.hid ⟨a, cap, c, capc, rfl, h, hq⟩
  have H1 := Lib.hid h
  have H2 := Lib.hid hq
  clear h hq
  have hsz : szFw (p, l, q) ≤ 1048576 := hs
  have hs1 : l.length ≤ 1048576 := by omega
  have hs2 : q.length ≤ 1048576 := by omega
  have B : Below W.heap.size W (W.alloc (.cells #[.int .i64 p, .slice a l.length cap, .slice c q.length capc] 36)) := (Below.refl _ _).alloc (Nat.le_refl _) _
  have BX : Hid (BoxFw (W.alloc (.cells #[.int .i64 p, .slice a l.length cap, .slice c q.length capc] 36)) W.heap.size p a l.length cap c q.length capc) := Lib.hid (BoxFw.at rfl)
  obtain ⟨hf, hvl, hv4⟩ := loadB_facts hlb
  have hvn := hv.1
  have HV := Lib.hid (hv.below B)
  clear hv
  obtain ⟨⟨hg1, hg2⟩, hg3, hg4, _, hg6⟩ := isFw_facts hf
  have hN : 2 * p.toNat = n := by omega
  have hl24 : l.length ≤ 24 := by omega
  have hml := rigM_len hf
  have HFIT := Lib.hid (fit_aug hf hv4)
  rw [hN] at HFIT
  have HRD : Hid (turnR (p, l, q) = if (rigM (p, l, q)).length = 0 then [] else turnL (rigM (p, l, q)) n) := Lib.hid (by unfold turnR; rw [show 2 * ((p, l, q) : FwT).1.toNat = n from hN])
  have HE : Hid (bearL (p, l, q) v = nullL (augL (rigM (p, l, q)) n v) (l.length + 1)) := Lib.hid (by unfold bearL; rw [show 2 * ((p, l, q) : FwT).1.toNat = n from hN])
  have HTU : Hid (Calls Try.prog 67 #[.agg #[.int .i64 p, .slice a l.length cap, .slice c q.length capc]] (W.alloc (.cells #[.int .i64 p, .slice a l.length cap, .slice c q.length capc] 36)) (RetIntss (W.alloc (.cells #[.int .i64 p, .slice a l.length cap, .slice c q.length capc] 36)) (turnR (p, l, q)))) := Lib.hid (l13Turned_at _ p a cap l c capc q (H1.out.below B) (H2.out.below B) hs hf)
  generalize rigM (p, l, q) = M at *
  generalize turnR (p, l, q) = T at *
  clear hg3 hvl
  have cR : ∀ (w : World) (am : Option Addr) (cm : Nat), IntssAt w am (augL M n v).length (augL M n v) → Calls Try.prog 61 #[.slice am (augL M n v).length cm, .int .i64 ((l.length : Int) + 1)] w (RetIntss w (nullL (augL M n v) (l.length + 1))) := fun w am cm hi =>
    l9Null_fit (augL M n v) (l.length + 1) _ _ HFIT.out w am cm hi
  rw [augL_length] at cR
  have HR := Lib.hid cR
  clear cR
  have HML := Lib.hid hml
  have hM24 : M.length ≤ 24 := by omega
  clear hml
  have hn16 : n ≤ 1048576 := by omega
  go_enter Try.func42, Try.ntmps42
  go_wp2_with fail
  generalize hu : (W.alloc (.cells #[.int .i64 p, .slice a l.length cap, .slice c q.length capc] 36)) = u at *
  have hub : W.heap.size < u.heap.size := by rw [← hu]; simp
  clear hu
  refine HTU.out.mono ?_
  rintro e w1 ⟨vm, rfl, ho, b⟩
  clear HTU
  have BU := b
  clear b
  obtain ⟨am, cm, rfl, _⟩ := ho.form
  have HO := Lib.hid ho
  clear ho
  go_wp2_with fail
  go_loopw [5, 6] (fun o jv w9 => ∃ k N : Nat, k ≤ n ∧ jv = .int .i64 k ∧ (M.length = 0 → N = k) ∧ (M.length ≠ 0 → N = n) ∧ OwnIntss w9 u.heap.size o (stB M v N k) ∧ Below u.heap.size u w9) (fun _ jv _ => n - (intOf jv).toNat)
  case atStart =>
    have h1 := HO.out
    by_cases h0 : M.length = 0
    · refine ⟨0, 0, Nat.zero_le _, rfl, fun _ => rfl, fun h => absurd h0 h, ?_, BU⟩
      have e : T = ([] : List (List Int)) := HRD.out.trans (if_pos h0)
      subst e
      rw [stB_zero]; exact h1
    · refine ⟨0, n, Nat.zero_le _, rfl, fun h => absurd h h0, fun _ => rfl, ?_, BU⟩
      have e : T = turnL M n := HRD.out.trans (if_neg h0)
      subst e
      rw [stB_zero]; exact h1
  case round =>
    obtain ⟨k, N, hk, rfl, hN1, hN2, ho, hb⟩ := hrel
    have hbz := hb.size
    obtain ⟨ao, co, hoe0, _⟩ := ho.form
    rw [stB_length] at hoe0
    subst hoe0
    have HO1 := Lib.hid ho
    clear ho HO
    have BX1 := Lib.hid (BX.out.below hb)
    by_cases hlt : k < n
    · obtain ⟨bl, ol, x, rfl, hbl, hx, hcu⟩ := HV.out.2 k hlt
      have HX := Lib.hid hx
      have hlti : (k : Int) < (n : Int) := by omega
      clear hx
      by_cases hm0 : M.length = 0
      · have hNN2 := (hN1 hm0).symm
        clear hN1 hN2
        subst hNN2
        have HM0 := Lib.hid hm0
        obtain ⟨vs1, hvs1, hrs1⟩ := HO1.out
        have HVS := Lib.hid hvs1
        have HRS := Lib.hid hrs1
        clear hvs1 hrs1
        have HBW : Hid (Below wr.heap.size wr (wr.alloc (.cells #[] 3))) := Lib.hid ((Below.refl _ _).alloc (Nat.le_refl _) _)
        have HLN : Hid ((stB M v k k).length = k) := Lib.hid (stB_length _ _ _ _)
        have HSA := Lib.hid (stB_app hm0 v k)
        clear hm0
        go_wp2_with (at_builtin; refine appRow (by rfl) (.tmp 19) (.tmp 21) (by rfl) (by rfl) (OwnInts.made wr u.heap.size hbz) HBW.out HVS.out HRS.out (fun q hq => (by simp [Value.ownBlock] at hq; omega)) (by rw [World.size_alloc]; rfl) (by rw [HLN.out]; omega) (by simp; omega) ?_; intro v' w8 h8 k8)
        have hbb : Below u.heap.size u w8 := hb.trans ((HBW.out.mono hbz).trans (k8.below (by simp; omega) fun z h1 h2 => (by
          have h9 := (show OwnIntss wr u.heap.size (.slice ao k co) (stB M v k k) from HO1.out)
          have := (World.ownsRow.lt HVS.out z h2.symm).1
          omega)))
        have hbx := hbb.size
        rw [HSA.out] at h8
        have hox := h8
        clear h8 k8
        obtain ⟨N, hNk⟩ : ∃ N, N = k + 1 := ⟨_, rfl⟩
        rw [← hNk] at hox
        have hkN : k < N := by omega
        have hN16 : N ≤ 1048576 := by omega
        have HNK := Lib.hid hNk
        clear hNk
        have hblx : bl < w8.heap.size := by omega
        have hcx := ((bcell hbb).1 _ (ol + k) hbl).trans hcu
        obtain ⟨g, cg, vs, hoe, hmo⟩ := hox.mat (by rw [stB_length]; omega)
        rw [stB_length] at hoe hmo
        first | subst hoe | (simp only [Value.slice.injEq, true_and] at hoe; obtain ⟨rfl, rfl⟩ := hoe)
        have hvl := hmo.len.1
        have hv0 : vs[k]? = some vs[k] := List.getElem?_eq_getElem (by omega)
        have hcc := World.ownsRow.cellAt hmo.out k (by omega)
        rw [hv0] at hcc
        generalize vs[k] = vk at hv0 hcc
        have hor := hmo.rows.own k _ _ hv0 (stB_get hkN)
        obtain ⟨ar, cr, rfl, hir⟩ := hor.form
        rw [colL_length] at hcc hir
        have hfz := hmo.froz k
        have hgb := hmo.blk.1
        have HM := Lib.hid hmo
        have HV0 := Lib.hid hv0
        have HIR := Lib.hid hir
        clear hmo hv0 hir hor hvl hox
        have hkNi : (k : Int) < (N : Int) := by omega
        have hk0 : (0 : Int) ≤ (k : Int) := by omega
        have hkni : (k : Int) < (n : Int) := by omega
        have OA : Hid (OwnInts (w8.alloc (.cells #[] 3)).drew w8.heap.size (.slice (some ⟨w8.heap.size, 0, none⟩) 0 0) []) := Lib.hid ((OwnInts.made w8 _ (Nat.le_refl _)).below (Below.refl _ _).drew)
        have OB : Hid (OwnInts ((w8.alloc (.cells #[] 3)).alloc (.cells #[.int .i64 x] 3)).drew w8.heap.size (.slice (some ⟨w8.heap.size, 0, none⟩) 0 0) []) := Lib.hid ((OwnInts.made w8 _ (Nat.le_refl _)).below ((Below.refl _ _).alloc (Nat.le_refl _) _).drew)
        have OC : Hid (OwnInts ((w8.alloc (.cells #[.int .i64 x] 3)).alloc (.cells #[] 3)).drew w8.heap.size (.slice (some ⟨w8.heap.size + 1, 0, none⟩) 0 0) []) := Lib.hid (by
          have h := (OwnInts.made (w8.alloc (.cells #[.int .i64 x] 3)) w8.heap.size (by simp)).below (Below.refl _ _).drew
          rwa [World.size_alloc] at h)
        have CB : Hid (((w8.alloc (.cells #[] 3)).alloc (.cells #[.int .i64 x] 3)).drew.cell? ⟨w8.heap.size + 1, 0, none⟩ = some (.int .i64 x)) := Lib.hid (by
          show ((w8.alloc (.cells #[] 3)).alloc _).cell? _ = _
          rw [← World.size_alloc w8 (.cells #[] 3)]; simp [World.cell?_alloc_new])
        have CC : Hid (((w8.alloc (.cells #[.int .i64 x] 3)).alloc (.cells #[] 3)).drew.cell? ⟨w8.heap.size, 0, none⟩ = some (.int .i64 x)) := Lib.hid (by
          have b2 : Below (w8.alloc (.cells #[.int .i64 x] 3)).heap.size (w8.alloc (.cells #[.int .i64 x] 3)) ((w8.alloc (.cells #[.int .i64 x] 3)).alloc (.cells #[] 3)).drew := ((Below.refl _ _).alloc (Nat.le_refl _) _).drew
          refine ((bcell b2).1 _ _ (by simp)).trans ?_
          simp [World.cell?_alloc_new])
        have BA : Below w8.heap.size w8 (w8.alloc (.cells #[] 3)).drew := ((Below.refl _ _).alloc (Nat.le_refl _) _).drew
        have BB : Below w8.heap.size w8 ((w8.alloc (.cells #[] 3)).alloc (.cells #[.int .i64 x] 3)).drew := (((Below.refl _ _).alloc (Nat.le_refl _) _).alloc (by simp) _).drew
        have BC : Below w8.heap.size w8 ((w8.alloc (.cells #[.int .i64 x] 3)).alloc (.cells #[] 3)).drew := (((Below.refl _ _).alloc (Nat.le_refl _) _).alloc (by simp) _).drew
        have BD : Below w8.heap.size w8 (w8.alloc (.cells #[.int .i64 x] 3)).drew := ((Below.refl _ _).alloc (Nat.le_refl _) _).drew
        have c0 : w8.drew.cell? ⟨g, k, none⟩ = _ := hcc
        have cA := ((bcell BA).1 _ k hgb).trans hcc
        have cB := ((bcell BB).1 _ k hgb).trans hcc
        have cC := ((bcell BC).1 _ k hgb).trans hcc
        have cD := ((bcell BD).1 _ k hgb).trans hcc
        have e0 : w8.drew.cell? ⟨bl, ol + k, none⟩ = _ := hcx
        have eA := ((bcell BA).1 _ (ol + k) hblx).trans hcx
        have eB := ((bcell BB).1 _ (ol + k) hblx).trans hcx
        have eC := ((bcell BC).1 _ (ol + k) hblx).trans hcx
        have eD := ((bcell BD).1 _ (ol + k) hblx).trans hcx
        have tk1 := True.intro
        have tk2 := True.intro
        go_region_law
          (first
            | (clear tk1; refine stepIntsAll (by rfl) (.tmp 25) (.tmp 29) (by rfl) (by rfl) OA.out (by rfl) (HIR.out.below BA) (by simp; omega) BA.size ?_; intro v5 w5 h5 k5 a5; have b5 : Below w8.heap.size w8 w5 := BA.trans (k5.setOwn OA.out (Nat.le_refl _) BA.size); rw [List.nil_append] at h5; have H5 := Lib.hid h5; clear h5; have hz5 := b5.size; have e5 := ((bcell b5).1 _ (ol + k) hblx).trans hcx; have s5 : (w5.alloc (.cells #[.int .i64 x] 3)).cell? ⟨w5.heap.size, 0, none⟩ = some (.int .i64 x) := by simp [World.cell?_alloc_new])
            | (clear tk1; refine stepIntsAll (by rfl) (.tmp 25) (.tmp 29) (by rfl) (by rfl) OB.out (by rfl) (HIR.out.below BB) (by simp; omega) BB.size ?_; intro v5 w5 h5 k5 a5; have b5 : Below w8.heap.size w8 w5 := BB.trans (k5.setOwn OB.out (Nat.le_refl _) BB.size); rw [List.nil_append] at h5; have H5 := Lib.hid h5; clear h5; have hz5 := b5.size; have s5 : w5.cell? ⟨w8.heap.size + 1, 0, none⟩ = some (.int .i64 x) := (k5.cell (by show _ < ((w8.alloc _).alloc _).heap.size; simp) (by simp [Value.ownBlock])).trans CB.out)
            | (clear tk1; refine stepIntsAll (by rfl) (.tmp 25) (.tmp 29) (by rfl) (by rfl) OC.out (by rfl) (HIR.out.below BC) (by simp; omega) BC.size ?_; intro v5 w5 h5 k5 a5; have b5 : Below w8.heap.size w8 w5 := BC.trans (k5.setOwn OC.out (Nat.le_refl _) BC.size); rw [List.nil_append] at h5; have H5 := Lib.hid h5; clear h5; have hz5 := b5.size; have s5 : w5.cell? ⟨w8.heap.size, 0, none⟩ = some (.int .i64 x) := (k5.cell (by show _ < ((w8.alloc _).alloc _).heap.size; simp; omega) (by simp [Value.ownBlock])).trans CC.out)
            | (clear tk2; refine stepInts1 (by rfl) (.tmp 30) (.tmp 35) (by rfl) (by rfl) (H5.out.below ((Below.refl _ _).alloc (Nat.le_refl _) _)) x w5.heap.size (by rfl) s5 (by rw [colL_length]; omega) (by simp; omega) ?_; intro v6 w6 h6 k6 a6; have b6 : Below w8.heap.size w8 w6 := (b5.alloc b5.size _).trans (k6.setOwn (H5.out.below ((Below.refl _ _).alloc (Nat.le_refl _) _)) (Nat.le_refl _) (by simp; omega)); obtain ⟨a9, c9, rfl, hi9⟩ := h6.form; clear hi9; have H6 := Lib.hid h6; clear h6; have s6 := ((bcell b6).1 _ _ hgb).trans hcc; have f6 := ((bcell b6).2 _ _ hgb).trans hfz)
            | (clear tk2; refine stepInts1 (by rfl) (.tmp 30) (.tmp 35) (by rfl) (by rfl) H5.out x _ (by rfl) s5 (by rw [colL_length]; omega) hz5 ?_; intro v6 w6 h6 k6 a6; have b6 : Below w8.heap.size w8 w6 := b5.trans (k6.setOwn H5.out (Nat.le_refl _) hz5); obtain ⟨a9, c9, rfl, hi9⟩ := h6.form; clear hi9; have H6 := Lib.hid h6; clear h6; have s6 := ((bcell b6).1 _ _ hgb).trans hcc; have f6 := ((bcell b6).2 _ _ hgb).trans hfz)
            | fail)
        all_goals
          go_wp2_with fail
          go_roundw
          case rel =>
            have h1 := HM.out.put HV0.out (stB_get hkN) (Kept.of_below b6) (ownsRow_base H6.out hbx) (.inr fun b hb => (H6.out.lt b hb).1)
            rw [stB_set HX.out, List.length_append] at h1
            exact ⟨k + 1, N, by omega, by go_num, fun _ => HNK.out, fun h => absurd HM0.out h, h1.own, (hbb.trans (b6.mono hbx)).setCell (p := ⟨g, k, none⟩) HM.out.blk.2 _⟩
          case measure => simp [intOf]; omega
      · have hNN := hN2 hm0
        clear hN1 hN2
        have hkN : k < N := by omega
        have hN16 : N ≤ 1048576 := by omega
        have HNN := Lib.hid hNN
        clear hNN
        have HM0 := Lib.hid hm0
        have hdi : decide ((N : Int) ≤ (k : Int)) = false := decide_eq_false (by omega)
        have hdn : decide (N ≤ k) = false := decide_eq_false (by omega)
        clear hm0
        go_wp2_with fail
        have hbb := hb
        have hbx := hbz
        have hox := HO1.out
        have hblx : bl < wr.heap.size := by omega
        have hcx := ((bcell hb).1 _ (ol + k) hbl).trans hcu
        obtain ⟨g, cg, vs, hoe, hmo⟩ := hox.mat (by rw [stB_length]; omega)
        rw [stB_length] at hoe hmo
        first | subst hoe | (simp only [Value.slice.injEq, true_and] at hoe; obtain ⟨rfl, rfl⟩ := hoe)
        have hvl := hmo.len.1
        have hv0 : vs[k]? = some vs[k] := List.getElem?_eq_getElem (by omega)
        have hcc := World.ownsRow.cellAt hmo.out k (by omega)
        rw [hv0] at hcc
        generalize vs[k] = vk at hv0 hcc
        have hor := hmo.rows.own k _ _ hv0 (stB_get hkN)
        obtain ⟨ar, cr, rfl, hir⟩ := hor.form
        rw [colL_length] at hcc hir
        have hfz := hmo.froz k
        have hgb := hmo.blk.1
        have HM := Lib.hid hmo
        have HV0 := Lib.hid hv0
        have HIR := Lib.hid hir
        clear hmo hv0 hir hor hvl hox
        have hkNi : (k : Int) < (N : Int) := by omega
        have hk0 : (0 : Int) ≤ (k : Int) := by omega
        have hkni : (k : Int) < (n : Int) := by omega
        have OA : Hid (OwnInts (wr.alloc (.cells #[] 3)).drew wr.heap.size (.slice (some ⟨wr.heap.size, 0, none⟩) 0 0) []) := Lib.hid ((OwnInts.made wr _ (Nat.le_refl _)).below (Below.refl _ _).drew)
        have OB : Hid (OwnInts ((wr.alloc (.cells #[] 3)).alloc (.cells #[.int .i64 x] 3)).drew wr.heap.size (.slice (some ⟨wr.heap.size, 0, none⟩) 0 0) []) := Lib.hid ((OwnInts.made wr _ (Nat.le_refl _)).below ((Below.refl _ _).alloc (Nat.le_refl _) _).drew)
        have OC : Hid (OwnInts ((wr.alloc (.cells #[.int .i64 x] 3)).alloc (.cells #[] 3)).drew wr.heap.size (.slice (some ⟨wr.heap.size + 1, 0, none⟩) 0 0) []) := Lib.hid (by
          have h := (OwnInts.made (wr.alloc (.cells #[.int .i64 x] 3)) wr.heap.size (by simp)).below (Below.refl _ _).drew
          rwa [World.size_alloc] at h)
        have CB : Hid (((wr.alloc (.cells #[] 3)).alloc (.cells #[.int .i64 x] 3)).drew.cell? ⟨wr.heap.size + 1, 0, none⟩ = some (.int .i64 x)) := Lib.hid (by
          show ((wr.alloc (.cells #[] 3)).alloc _).cell? _ = _
          rw [← World.size_alloc wr (.cells #[] 3)]; simp [World.cell?_alloc_new])
        have CC : Hid (((wr.alloc (.cells #[.int .i64 x] 3)).alloc (.cells #[] 3)).drew.cell? ⟨wr.heap.size, 0, none⟩ = some (.int .i64 x)) := Lib.hid (by
          have b2 : Below (wr.alloc (.cells #[.int .i64 x] 3)).heap.size (wr.alloc (.cells #[.int .i64 x] 3)) ((wr.alloc (.cells #[.int .i64 x] 3)).alloc (.cells #[] 3)).drew := ((Below.refl _ _).alloc (Nat.le_refl _) _).drew
          refine ((bcell b2).1 _ _ (by simp)).trans ?_
          simp [World.cell?_alloc_new])
        have BA : Below wr.heap.size wr (wr.alloc (.cells #[] 3)).drew := ((Below.refl _ _).alloc (Nat.le_refl _) _).drew
        have BB : Below wr.heap.size wr ((wr.alloc (.cells #[] 3)).alloc (.cells #[.int .i64 x] 3)).drew := (((Below.refl _ _).alloc (Nat.le_refl _) _).alloc (by simp) _).drew
        have BC : Below wr.heap.size wr ((wr.alloc (.cells #[.int .i64 x] 3)).alloc (.cells #[] 3)).drew := (((Below.refl _ _).alloc (Nat.le_refl _) _).alloc (by simp) _).drew
        have BD : Below wr.heap.size wr (wr.alloc (.cells #[.int .i64 x] 3)).drew := ((Below.refl _ _).alloc (Nat.le_refl _) _).drew
        have c0 : wr.drew.cell? ⟨g, k, none⟩ = _ := hcc
        have cA := ((bcell BA).1 _ k hgb).trans hcc
        have cB := ((bcell BB).1 _ k hgb).trans hcc
        have cC := ((bcell BC).1 _ k hgb).trans hcc
        have cD := ((bcell BD).1 _ k hgb).trans hcc
        have e0 : wr.drew.cell? ⟨bl, ol + k, none⟩ = _ := hcx
        have eA := ((bcell BA).1 _ (ol + k) hblx).trans hcx
        have eB := ((bcell BB).1 _ (ol + k) hblx).trans hcx
        have eC := ((bcell BC).1 _ (ol + k) hblx).trans hcx
        have eD := ((bcell BD).1 _ (ol + k) hblx).trans hcx
        have tk1 := True.intro
        have tk2 := True.intro
        go_region_law
          (first
            | (clear tk1; refine stepIntsAll (by rfl) (.tmp 25) (.tmp 29) (by rfl) (by rfl) OA.out (by rfl) (HIR.out.below BA) (by simp; omega) BA.size ?_; intro v5 w5 h5 k5 a5; have b5 : Below wr.heap.size wr w5 := BA.trans (k5.setOwn OA.out (Nat.le_refl _) BA.size); rw [List.nil_append] at h5; have H5 := Lib.hid h5; clear h5; have hz5 := b5.size; have e5 := ((bcell b5).1 _ (ol + k) hblx).trans hcx; have s5 : (w5.alloc (.cells #[.int .i64 x] 3)).cell? ⟨w5.heap.size, 0, none⟩ = some (.int .i64 x) := by simp [World.cell?_alloc_new])
            | (clear tk1; refine stepIntsAll (by rfl) (.tmp 25) (.tmp 29) (by rfl) (by rfl) OB.out (by rfl) (HIR.out.below BB) (by simp; omega) BB.size ?_; intro v5 w5 h5 k5 a5; have b5 : Below wr.heap.size wr w5 := BB.trans (k5.setOwn OB.out (Nat.le_refl _) BB.size); rw [List.nil_append] at h5; have H5 := Lib.hid h5; clear h5; have hz5 := b5.size; have s5 : w5.cell? ⟨wr.heap.size + 1, 0, none⟩ = some (.int .i64 x) := (k5.cell (by show _ < ((wr.alloc _).alloc _).heap.size; simp) (by simp [Value.ownBlock])).trans CB.out)
            | (clear tk1; refine stepIntsAll (by rfl) (.tmp 25) (.tmp 29) (by rfl) (by rfl) OC.out (by rfl) (HIR.out.below BC) (by simp; omega) BC.size ?_; intro v5 w5 h5 k5 a5; have b5 : Below wr.heap.size wr w5 := BC.trans (k5.setOwn OC.out (Nat.le_refl _) BC.size); rw [List.nil_append] at h5; have H5 := Lib.hid h5; clear h5; have hz5 := b5.size; have s5 : w5.cell? ⟨wr.heap.size, 0, none⟩ = some (.int .i64 x) := (k5.cell (by show _ < ((wr.alloc _).alloc _).heap.size; simp; omega) (by simp [Value.ownBlock])).trans CC.out)
            | (clear tk2; refine stepInts1 (by rfl) (.tmp 30) (.tmp 35) (by rfl) (by rfl) (H5.out.below ((Below.refl _ _).alloc (Nat.le_refl _) _)) x w5.heap.size (by rfl) s5 (by rw [colL_length]; omega) (by simp; omega) ?_; intro v6 w6 h6 k6 a6; have b6 : Below wr.heap.size wr w6 := (b5.alloc b5.size _).trans (k6.setOwn (H5.out.below ((Below.refl _ _).alloc (Nat.le_refl _) _)) (Nat.le_refl _) (by simp; omega)); obtain ⟨a9, c9, rfl, hi9⟩ := h6.form; clear hi9; have H6 := Lib.hid h6; clear h6; have s6 := ((bcell b6).1 _ _ hgb).trans hcc; have f6 := ((bcell b6).2 _ _ hgb).trans hfz)
            | (clear tk2; refine stepInts1 (by rfl) (.tmp 30) (.tmp 35) (by rfl) (by rfl) H5.out x _ (by rfl) s5 (by rw [colL_length]; omega) hz5 ?_; intro v6 w6 h6 k6 a6; have b6 : Below wr.heap.size wr w6 := b5.trans (k6.setOwn H5.out (Nat.le_refl _) hz5); obtain ⟨a9, c9, rfl, hi9⟩ := h6.form; clear hi9; have H6 := Lib.hid h6; clear h6; have s6 := ((bcell b6).1 _ _ hgb).trans hcc; have f6 := ((bcell b6).2 _ _ hgb).trans hfz)
            | fail)
        all_goals
          go_wp2_with fail
          go_roundw
          case rel =>
            have h1 := HM.out.put HV0.out (stB_get hkN) (Kept.of_below b6) (ownsRow_base H6.out hbx) (.inr fun b hb => (H6.out.lt b hb).1)
            rw [stB_set HX.out, List.length_append] at h1
            exact ⟨k + 1, N, by omega, by go_num, fun h => absurd h HM0.out, fun _ => HNN.out, h1.own, (hbb.trans (b6.mono hbx)).setCell (p := ⟨g, k, none⟩) HM.out.blk.2 _⟩
          case measure => simp [intOf]; omega
    · obtain rfl : k = n := by omega
      have HE2 : Hid (stB M v N k = augL M k v) := Lib.hid (by
        have : N = k := by rcases Nat.eq_zero_or_pos M.length with h | h; exact hN1 h; exact hN2 (by omega)
        rw [this, stB_done])
      have hNk : N = k := by rcases Nat.eq_zero_or_pos M.length with h | h; exact hN1 h; exact hN2 (by omega)
      clear hN1 hN2
      subst hNk
      obtain ⟨zBX, fBX0, fBX1, fBX2⟩ := BX1.out
      have hi := HO1.out.form
      obtain ⟨ao', co', he9, hi9⟩ := hi
      rw [stB_length] at he9 hi9
      simp only [Value.slice.injEq, true_and] at he9
      obtain ⟨rfl, rfl⟩ := he9
      rw [HE2.out] at hi9
      have HI9 := Lib.hid hi9
      clear hi9
      go_wp2_with fail
      refine (HR.out _ _ _ HI9.out).mono ?_
      rintro e w2 ⟨v2, rfl, ho2, b2⟩
      have HO2 := Lib.hid ho2
      clear ho2
      go_wp2_with fail
      go_ret
      exact ⟨_, rfl, by rw [HE.out]; exact ownsRow_base' HO2.out (by omega), B.trans ((hb.mono (by omega)).trans (b2.mono (by omega)))⟩
end Go.Proofs.Ytchlmnlaaloipaa
