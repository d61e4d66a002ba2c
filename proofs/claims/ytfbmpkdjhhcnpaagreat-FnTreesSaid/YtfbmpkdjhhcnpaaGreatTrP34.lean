/- PackTrees of the program. No condition but sizes. -/
import Derived.Test.YtfbmpkdjhhcnpaaGreatTrP32
import Derived.Test.YtfbmpkdjhhcnpaaGreatTrP33
import Derived.Laws.EntriesVeiled
import Derived.Test.YtfbmpkdjhhcnpaaGreatTrP01
import Derived.Shelf.Sort.Plain
import Derived.Ground.Names2Prog
import Derived.Shelf.Slices.In.SortNone
import Derived.Test.YtfbmpkdjhhcnpaaGreatTrP07
import Derived.Sort.Grow
import Derived.Test.YtfbmpkdjhhcnpaaGreatTrP30
namespace Go.Proofs.YtfbmpkdjhhcnpaaGreat
open Go.RowKit
set_option maxRecDepth 100000
set_option linter.unusedVariables false
set_option linter.unusedSimpArgs false
theorem infoBarS : (Tryz.prog.info? 24).map (fun i => (i.zero, i.size, i.bytes)) = some (some (.slice none 0 0), 1, 24) := by kernel_rfl
theorem made_rep {k : Nat} : (madeCells (Value.cells (.slice none 0 0)) (k * 1)).toList = List.replicate k (.slice none 0 0) := by
  rw [Nat.mul_one]
  simp only [Value.cells, toList_madeCells_one]
theorem madeB {w : World} {base g k : Nat} (h : w.ownsRow base 24 1 (.slice (some ⟨g, 0, none⟩) k k) k (madeCells (Value.cells (.slice none 0 0)) (k * 1)).toList) : MatB w base g k k (List.replicate k (.slice none 0 0)) (List.replicate k []) := by
  rw [made_rep] at h
  refine ⟨h, by simp, fun i v r hv hr => ?_, ?_⟩
  · rw [List.getElem?_replicate] at hv hr
    split at hv
    · rename_i hi
      rw [if_pos hi] at hr
      obtain rfl := Option.some.inj hv
      obtain rfl := Option.some.inj hr
      exact OwnBars.nil _ _
    · simp at hv
  · rw [List.pairwise_replicate]
    right
    intro b h1
    simp [Value.ownBlock] at h1
theorem madeI {w : World} {base g k : Nat} (h : w.ownsRow base 35 1 (.slice (some ⟨g, 0, none⟩) k k) k (madeCells (Value.cells (.slice none 0 0)) (k * 1)).toList) : MatO w base g k k (List.replicate k (.slice none 0 0)) (List.replicate k []) := by
  rw [made_rep] at h
  refine ⟨h, by simp, fun i v r hv hr => ?_, ?_⟩
  · rw [List.getElem?_replicate] at hv hr
    split at hv
    · rename_i hi
      rw [if_pos hi] at hr
      obtain rfl := Option.some.inj hv
      obtain rfl := Option.some.inj hr
      exact OwnInts.nil _ _
    · simp at hv
  · rw [List.pairwise_replicate]
    right
    intro b h1
    simp [Value.ownBlock] at h1
theorem MatO.low {W : World} {base base' g n cap : Nat} {vs : List Value} {ll : List (List Int)} (h : MatO W base g n cap vs ll) (hb : base' ≤ base) : MatO W base' g n cap vs ll := ⟨ownsRow_base h.out hb, h.rows.mono hb⟩
theorem MatB.low {W : World} {base base' g n cap : Nat} {vs : List Value} {ll : List (List BarT)} (h : MatB W base g n cap vs ll) (hb : base' ≤ base) : MatB W base' g n cap vs ll := ⟨ownsRow_base h.out hb, ⟨h.rows.len, fun k v r h1 h2 => ownsRow_base (h.rows.own k v r h1 h2) hb, h.rows.apart⟩⟩
set_option maxHeartbeats 8000000 in
theorem implPack_at (W : World) (p : Int) (a : Option Addr) (cap : Nat) (l : List BarT) (h : BarsAt W a l.length l) (hs : l.length ≤ 1048576) (k : Int) : Calls Tryz.prog 7 #[.agg #[.int .i64 p, .slice a l.length cap], .int .i64 k] W (RetPk W (packL (p, l) k) (packOk (p, l) k)) := by
  have hwd := @Wd.cells
  have HGr : Hid (IsGraph W (.agg #[.int .i64 p, .slice a l.length cap]) (p, l)) := Lib.hid ⟨a, cap, rfl, h⟩
  have H1 := Lib.hid h
  clear h
  have hsz : szGraph (p, l) ≤ 1048576 := hs
  have hsz2 : szGraph (p, l) ≤ 1099511627776 := Nat.le_trans hsz (by decide)
  have B : Below W.heap.size W (W.alloc (.cells #[.int .i64 p, .slice a l.length cap] 26)) := (Below.refl _ _).alloc (Nat.le_refl _) _
  have BG : Hid (BoxGr (W.alloc (.cells #[.int .i64 p, .slice a l.length cap] 26)) W.heap.size p a l.length cap) := Lib.hid (BoxGr.at rfl)
  have HCT : Hid (∀ w1 : World, Below W.heap.size W w1 → Calls Tryz.prog 48 #[.agg #[.int .i64 p, .slice a l.length cap], .int .i64 k, .int .i64 k] w1 fun e w' => e = .returned (.bool (tightB (p, l) k k)) ∧ Below w1.heap.size w1 w') := Lib.hid fun w1 b => implTight_at w1 p a cap l (H1.out.below b) hs k k
  have HCI : Hid (∀ w1 : World, Calls Tryz.prog 47 #[.int .i64 k, .int .i64 1, .int .i64 3] w1 fun e w' => e = .returned (.bool (inB k 1 3)) ∧ w1 = w') := Lib.hid fun w1 => within_any k 1 3 w1
  have bk := belAl (W.alloc (.cells #[.int .i64 p, .slice a l.length cap] 26)) (.cells #[.int .i64 k] 3)
  have ck : ((W.alloc (.cells #[.int .i64 p, .slice a l.length cap] 26)).alloc (.cells #[.int .i64 k] 3)).cell? ⟨W.heap.size + 1, 0, none⟩ = some (.int .i64 k) := by simp [World.cell?_alloc_new]
  have zk : W.heap.size + 2 ≤ ((W.alloc (.cells #[.int .i64 p, .slice a l.length cap] 26)).alloc (.cells #[.int .i64 k] 3)).heap.size := by simp
  replace B := B.step bk
  replace BG := Lib.hid (BG.out.below bk)
  clear bk
  have hib := infoBarS
  have hii := infoInts
  obtain ⟨i0, hi0, hz0, hz1, hz2⟩ := info_parts hib
  obtain ⟨i9, hi9, hz90, hz91, hz92⟩ := info_parts hii
  clear hib hii
  go_enter Tryz.func7, Tryz.ntmps7
  go_wp2_with fail
  generalize ((W.alloc (.cells #[.int .i64 p, .slice a l.length cap] 26)).alloc (.cells #[.int .i64 k] 3)) = u at *
  have ZK := Lib.hid zk
  cases hi : inB k 1 3
  · rw [hi] at HCI
    have HE : Hid (packO (p, l) k = none) := Lib.hid (packO_no (by rw [hi]; rfl))
    refine (HCI.out _).mono ?_
    rintro e w2 ⟨rfl, rfl⟩
    obtain ⟨zBG, fBG0, fBG1⟩ := BG.out
    go_wp2_with fail
    go_ret2
    exact RetPk.no HE.out (ownsRow_base' (made_intssP _) (by have := B.size; omega)) (B.step (belAl _ _))
  rw [hi] at HCI
  have HI := Lib.hid hi
  have hk13 : 1 ≤ k ∧ k ≤ 3 := by simpa [inB] using hi
  obtain ⟨K, rfl⟩ := Int.eq_ofNat_of_zero_le (show 0 ≤ k by omega)
  clear hi
  refine (HCI.out _).mono ?_
  rintro e w2 ⟨rfl, rfl⟩
  cases ht : tightB (p, l) (K : Int) (K : Int)
  · rw [ht] at HCT
    have HE : Hid (packO (p, l) (K : Int) = none) := Lib.hid (packO_no (by rw [ht]; simp))
    obtain ⟨zBG, fBG0, fBG1⟩ := BG.out
    go_wp2_with (go_at_call 48; refine (HCT.out _ B).mono ?_; rintro e w2 ⟨rfl, b⟩; replace B := B.step b)
    go_ret2
    exact RetPk.no HE.out (ownsRow_base' (made_intssP _) (by have := B.size; omega)) (B.step (belAl _ _))
  rw [ht] at HCT
  have HT := Lib.hid ht
  have hg := tight_graph ht
  obtain ⟨⟨hg1, hg2⟩, hll⟩ := isGraphB_bd hg
  obtain ⟨P, rfl⟩ := Int.eq_ofNat_of_zero_le (show 0 ≤ p by omega)
  have HG := Lib.hid hg
  clear ht hg
  obtain ⟨zBG, fBG0, fBG1⟩ := BG.out
  go_wp2_with fail
  refine (HCT.out _ B).mono ?_
  rintro e w2 ⟨rfl, b⟩
  have hz2b := b.size
  replace B := B.step b
  replace BG := Lib.hid (BG.out.below b)
  have ck2 := (b.cell (p := ⟨W.heap.size + 1, 0, none⟩) (show W.heap.size + 1 < u.heap.size by omega)).trans ck
  clear b zBG fBG0 fBG1 ck zk
  have hz2c : W.heap.size + 2 ≤ w2.heap.size := by have := ZK.out; omega
  obtain ⟨zBG, fBG0, fBG1⟩ := BG.out
  by_cases hp5 : ¬ (P : Int) ≤ 5
  · have HE : Hid (packO ((P : Int), l) (K : Int) = none) := Lib.hid (packO_no (by rw [decide_eq_false hp5]; simp))
    have hp6 : (5 : Int) < (P : Int) := by omega
    go_wp2_with fail
    go_ret2
    exact RetPk.no HE.out (ownsRow_base' (made_intssP _) (by have := B.size; omega)) (B.step (belAl _ _))
  have hp6 : ¬ (5 : Int) < (P : Int) := by omega
  have HPO : Hid (packO ((P : Int), l) (K : Int) = fillS (forF l) K l.length 0 (List.replicate K [])) := Lib.hid (by
    unfold packO
    rw [HI.out, HT.out, decide_eq_true (Classical.not_not.1 hp5)]
    rfl)
  clear hp5
  go_wp2_with (first
    | (at_make; refine wpList_make_full _ rfl _ _ _ rfl w2.heap.size 24 i0 (.slice none 0 0) 1 Tryz.underlying67 hi0 hz0 hz1 .i64 .i64 _ _ K rfl rfl rfl rfl (by rw [hz2]; omega) (by unfold maxLen; omega) (Nat.le_refl _) ?_; intro w3 hown hgrow; have b3 : Below w2.heap.size w2 w3 := Below.of_grown_none hgrow; have b4 : Below w2.heap.size w2 (w3.alloc (.cells #[.slice (some ⟨w2.heap.size, 0, none⟩) K K] 67)) := b3.step (belAl w3 _); have HMB := Lib.hid ((madeB hown).below (belAl w3 (.cells #[.slice (some ⟨w2.heap.size, 0, none⟩) K K] 67))); have ck4 := (b4.cell (p := ⟨W.heap.size + 1, 0, none⟩) (show W.heap.size + 1 < w2.heap.size by omega)).trans ck2; have cP4 : (w3.alloc (.cells #[.slice (some ⟨w2.heap.size, 0, none⟩) K K] 67)).cell? ⟨w3.heap.size, 0, none⟩ = some (.slice (some ⟨w2.heap.size, 0, none⟩) K K) := (by simp [World.cell?_alloc_new]); have hz3 := b3.size; have hz4 : w3.heap.size + 1 ≤ (w3.alloc (.cells #[.slice (some ⟨w2.heap.size, 0, none⟩) K K] 67)).heap.size := (by simp); have hpw : w2.heap.size < w3.heap.size := (World.ownsRow.lt hown _ rfl).2; clear hown hgrow b3)
    | (at_make; generalize (w3.alloc (.cells #[.slice (some ⟨w2.heap.size, 0, none⟩) K K] 67)) = wB at *; refine wpList_make_full _ rfl _ _ _ rfl w2.heap.size 35 i9 (.slice none 0 0) 1 Tryz.underlying29 hi9 hz90 hz91 .i64 .i64 _ _ K rfl rfl rfl rfl (by rw [hz92]; omega) (by unfold maxLen; omega) (by have := b4.size; omega) ?_; intro w5 hown hgrow; have b5 : Below wB.heap.size wB w5 := Below.of_grown_none hgrow; have b6 : Below wB.heap.size wB (w5.alloc (.cells #[.slice (some ⟨wB.heap.size, 0, none⟩) K K] 29)) := b5.step (belAl w5 _); have HMO := Lib.hid ((madeI hown).below (belAl w5 (.cells #[.slice (some ⟨wB.heap.size, 0, none⟩) K K] 29))); have cO6 : (w5.alloc (.cells #[.slice (some ⟨wB.heap.size, 0, none⟩) K K] 29)).cell? ⟨w5.heap.size, 0, none⟩ = some (.slice (some ⟨wB.heap.size, 0, none⟩) K K) := (by simp [World.cell?_alloc_new]); have hz6 : w5.heap.size + 1 ≤ (w5.alloc (.cells #[.slice (some ⟨wB.heap.size, 0, none⟩) K K] 29)).heap.size := (by simp); have hz5 := b5.size; have how : wB.heap.size < w5.heap.size := (World.ownsRow.lt hown _ rfl).2; clear hown hgrow b5))
  clear zBG fBG0 fBG1
  generalize (w5.alloc (.cells #[.slice (some ⟨wB.heap.size, 0, none⟩) K K] 29)) = w6 at *
  have HMB6 := Lib.hid (HMB.out.below b6)
  have ck6 := (b6.cell (p := ⟨W.heap.size + 1, 0, none⟩) (show W.heap.size + 1 < wB.heap.size by omega)).trans ck4
  have cP6 := (b6.cell (p := ⟨w3.heap.size, 0, none⟩) (show w3.heap.size < wB.heap.size by omega)).trans cP4
  have b26 := b4.step b6
  have BG6 := Lib.hid (BG.out.below b26)
  have B6 := B.step b26
  clear HMB BG B ck4 cP4 b26 ck2
  go_loopw [32] (fun s w9 => ∃ i : Nat, i ≤ K ∧ s = .int .i64 i ∧ ∃ vs, MatO w9 w2.heap.size wB.heap.size K K vs (List.replicate K []) ∧ (∀ v ∈ vs, ∀ b, v.ownBlock = some b → w6.heap.size ≤ b) ∧ Kept (fun b => b = wB.heap.size) w6 w9) (fun s _ => K - (intOf s).toNat)
  case atStart => exact ⟨0, Nat.zero_le _, rfl, _, HMO.out, fun v hv b hb => by
    rw [List.mem_replicate] at hv
    rw [hv.2] at hb
    simp [Value.ownBlock] at hb, Kept.refl _ _⟩
  case round =>
    clear HMO
    obtain ⟨i, hi, rfl, vs, hm, hfr, hkp⟩ := hrel
    have HM := Lib.hid hm
    have HFR := Lib.hid hfr
    have HK := Lib.hid hkp
    clear hm hfr hkp
    have cO := (HK.out.cell (b := w5.heap.size) (o := 0) (by omega) (by omega)).trans cO6
    have hzr := HK.out.size
    by_cases hik : i < K
    · have hii : (i : Int) < (K : Int) := by omega
      have hi0' : (0 : Int) ≤ (i : Int) := by omega
      obtain ⟨u0, r0, hu, hr0, ho0⟩ := HM.out.rows.get (k := i) (by simp; exact hik)
      have c0 := World.ownsRow.cellAt HM.out.out i (by omega)
      rw [hu] at c0
      have zg := HM.out.blk
      have fz := HM.out.froz i
      have HU := Lib.hid hu
      have HR0 := Lib.hid hr0
      have bn := belAl wr (.cells #[] 3)
      have e0 := (bn.cell (p := ⟨wB.heap.size, i, none⟩) zg.1).trans c0
      have ef := ((bcell bn).2 wB.heap.size i zg.1).trans fz
      have ez : wB.heap.size < (wr.alloc (.cells #[] 3)).heap.size := by simp; omega
      have eo := (bn.cell (p := ⟨w5.heap.size, 0, none⟩) (show w5.heap.size < wr.heap.size by omega)).trans cO
      have HP := Lib.hid (HM.out.put (W' := wr.alloc (.cells #[] 3)) HU.out HR0.out (Kept.of_below bn) (ownsRow_base (made_intsS wr) (by omega)) (.inr fun b hb => by simp [Value.ownBlock] at hb; omega))
      have hrep : (List.replicate K ([] : List Int)).set i [] = List.replicate K [] := by
        refine List.ext_getElem? fun j => ?_
        by_cases e : i = j
        · subst e; rw [List.getElem?_set_self (by simpa using hik), List.getElem?_replicate, if_pos hik]
        · rw [List.getElem?_set_ne e]
      rw [hrep] at HP
      have HFN : Hid (∀ v ∈ vs.set i (.slice (some ⟨wr.heap.size, 0, none⟩) 0 0), ∀ b, v.ownBlock = some b → w6.heap.size ≤ b) := Lib.hid fun v hv b hb => by
        rcases mem_set_or hv with hv | hv
        · exact HFR.out v hv b hb
        · subst hv; simp [Value.ownBlock] at hb; omega
      have HKN := Lib.hid (HK.out.trans ((Kept.of_below (S := fun b => b = wB.heap.size) bn).trans (keptSet (b := wB.heap.size) (j := i) (x := .slice (some ⟨wr.heap.size, 0, none⟩) 0 0) rfl)))
      rw [World.setCell_alloc_past _ _ _ _ zg.1] at HP HKN
      clear hu hr0 ho0 hrep bn
      go_wp2_with fail
      go_roundw
      case rel => exact ⟨i + 1, by omega, by go_num, _, HP.out, HFN.out, HKN.out⟩
      case measure => simp [intOf]; omega
    · obtain rfl : i = K := by omega
      clear hik hi
      have hnl : decide ((i : Int) < (i : Int)) = false := by simp
      have hmr := HM.out.rows.lt
      have HA : Hid (FilM W (wr.alloc (.cells #[(Adr.clos ⟨W.heap.size, W.heap.size + 1, w3.heap.size, w5.heap.size, wr.heap.size, w2.heap.size, i, wB.heap.size, i⟩)] 68)) ⟨W.heap.size, W.heap.size + 1, w3.heap.size, w5.heap.size, wr.heap.size, w2.heap.size, i, wB.heap.size, i⟩ P a cap l i vs (List.replicate i (.slice none 0 0)) (List.replicate i []) ((List.replicate i []).map (barsOf l))) := Lib.hid (by
        have bf := belAl wr (.cells #[(Adr.clos ⟨W.heap.size, W.heap.size + 1, w3.heap.size, w5.heap.size, wr.heap.size, w2.heap.size, i, wB.heap.size, i⟩)] 68)
        have hk := HK.out.trans (Kept.of_below (S := fun b => b = wB.heap.size) bf)
        have bz : w6.heap.size ≤ w6.heap.size := Nat.le_refl _
        have hg6 := BG6.out
        have e1 : ∀ b o, b < w6.heap.size → b ≠ wB.heap.size → (wr.alloc (.cells #[(Adr.clos ⟨W.heap.size, W.heap.size + 1, w3.heap.size, w5.heap.size, wr.heap.size, w2.heap.size, i, wB.heap.size, i⟩)] 68)).cell? ⟨b, o, none⟩ = w6.cell? ⟨b, o, none⟩ := fun b o h1 h2 => hk.cell h1 h2
        refine ⟨B6.trans (hk.below (by have := B6.size; omega) fun b h1 h2 => by omega), (e1 W.heap.size 0 (by omega) (by omega)).trans hg6.c0, (e1 W.heap.size 1 (by omega) (by omega)).trans hg6.c1, (e1 (W.heap.size + 1) 0 (by omega) (by omega)).trans ck6, (e1 w3.heap.size 0 (by omega) (by omega)).trans cP6, (e1 w5.heap.size 0 (by omega) (by omega)).trans cO6, by simp [World.cell?_alloc_new], ?_, (HM.out.low (by omega)).below bf, ?_, ?_, ?_, ?_⟩
        · intro b hb
          simp only [Adr.box] at hb
          rw [World.size_alloc]
          omega
        · have h9 := (HMB6.out.low (base' := W.heap.size) (by omega))
          have e9 : (List.replicate i ([] : List Int)).map (barsOf l) = List.replicate i [] := by simp [barsOf]
          rw [e9]
          refine ⟨hk.ownsRow h9.out fun b h1 h2 => ?_, h9.rows.kept hk fun q hq b h1 h2 => ?_⟩
          · simp [Value.ownBlock] at h1; omega
          · rw [List.mem_replicate] at hq
            rw [hq.2] at h1
            simp [Value.ownBlock] at h1
        · intro b hb
          simp only [Adr.box] at hb
          show b ≠ w2.heap.size ∧ b ≠ wB.heap.size
          omega
        · intro b hb v hv e
          have h8 := HFR.out v hv b e
          have h9 := (hmr v hv b e).2
          simp only [Adr.box] at hb
          omega
        · intro b hb v hv e
          rw [List.mem_replicate] at hv
          rw [hv.2] at e
          simp [Value.ownBlock] at e)
      have HC := Lib.hid (fill_at W ⟨W.heap.size, W.heap.size + 1, w3.heap.size, w5.heap.size, wr.heap.size, w2.heap.size, i, wB.heap.size, i⟩ P (by omega) (by omega) a cap l H1.out HG.out i (by omega) l.length 0 (List.replicate i []) _ _ _ (by omega) (SetsOk.none i) HA.out)
      have hfc := HA.out.cf
      have hco := HA.out.co
      unfold Adr.clos at hfc hco HC
      dsimp only at hfc hco HC
      clear hmr
      go_wp2_with fail
      cases hres : fillS (forF l) i l.length 0 (List.replicate i [])
      · rw [hres] at HC HPO
        refine HC.out.mono ?_
        rintro e w7 ⟨rfl, vs7, us7, m7⟩
        have B7 := m7.bel
        clear HC m7 HA hfc hco
        go_wp2_with fail
        go_ret2
        exact RetPk.no HPO.out (ownsRow_base' (made_intssP _) (by have := B7.size; omega)) (B7.step (belAl _ _))
      · rename_i S2
        rw [hres] at HC HPO
        refine HC.out.mono ?_
        rintro e w7 ⟨rfl, vs7, us7, m7⟩
        have B7 := m7.bel
        have hco7 := m7.co
        dsimp only at hco7
        have HM7 := Lib.hid m7.mo.own
        clear HC m7 HA hfc hco
        go_wp2_with fail
        go_ret2
        exact RetPk.yes HPO.out HM7.out B7
end Go.Proofs.YtfbmpkdjhhcnpaaGreat

namespace Go.Proofs.YtfbmpkdjhhcnpaaGreat
open Go.RowKit
set_option maxRecDepth 100000
set_option linter.unusedVariables false
set_option linter.unusedSimpArgs false
theorem fillS_ok {F : List Int → Bool} {k : Nat} : ∀ (d e : Nat) (S S' : SetsT), SetsOk k e S → fillS F k d e S = some S' → SetsOk k (d + e) S'
  | 0, e, S, S', h, hs => by
    simp only [fillS, Option.some.injEq] at hs
    subst hs
    rw [Nat.zero_add]; exact h
  | d + 1, e, S, S', h, hs => by
    rw [fillS_succ] at hs
    obtain ⟨i, hi, hf⟩ := firstS_some k hs
    unfold tryS at hf
    split at hf
    · have := fillS_ok d (e + 1) _ _ (h.add hi) hf
      rw [show d + 1 + e = d + (e + 1) by omega]; exact this
    · simp at hf
theorem packO_ok {g : GraphT} {k : Int} {S : SetsT} (h : packO g k = some S) : isGraphB g = true ∧ (1 ≤ k ∧ k ≤ 3) ∧ SetsOk k.toNat g.2.length S := by
  unfold packO at h
  split at h
  · rename_i hc
    simp only [Bool.and_eq_true] at hc
    have h1 := fillS_ok _ _ _ _ (SetsOk.none k.toNat) h
    exact ⟨tight_graph hc.2.1, by simpa [inB] using hc.1, h1⟩
  · simp at h
theorem packL_sz (g : GraphT) (k : Int) : szIntss (packL g k) ≤ 1048576 := by
  unfold packL
  cases h : packO g k with
  | none => decide
  | some S =>
    obtain ⟨h1, h2, h3⟩ := packO_ok h
    have h4 := (isGraphB_bd h1).2
    have hlen := h3.len
    have key : ∀ ll : List (List Int), (∀ r ∈ ll, r.length ≤ 24) → sumLen ll ≤ ll.length * 24 := by
      intro ll
      induction ll with
      | nil => intro _; simp [sumLen]
      | cons r ll ih =>
        intro hr
        have h1 := ih fun x hx => hr x (List.mem_cons_of_mem _ hx)
        have h2 := hr r (List.mem_cons_self ..)
        simp only [sumLen, List.map_cons, List.sum_cons, List.length_cons, Nat.succ_mul] at h1 ⊢
        omega
    have h5 := key S fun r hr => by
      obtain ⟨t, ht⟩ := List.getElem?_of_mem hr
      have := h3.lenA t
      unfold setA at this
      rw [ht] at this
      simp only [Option.getD_some] at this
      omega
    show S.length + sumLen S ≤ 1048576
    omega
theorem spec_PackTrees (W : World) (v : Value) (g : GraphT) (h : IsGraph W v g) (k : Int) (hn : szGraph g ≤ 1048576) : Calls Tryz.prog 8 #[v, .int .i64 k] W fun e w' => ∃ vo, e = .returned (.tuple #[vo, .bool (packOk g k)]) ∧ OwnIntss w' W.heap.size vo (packL g k) ∧ Below W.heap.size W w' := by
  obtain ⟨p, l⟩ := g
  obtain ⟨a, cap, rfl, hi⟩ := h
  exact specPack_at _ _ _ _ _ hi hn k
theorem impl_PackTrees (W : World) (v : Value) (g : GraphT) (h : IsGraph W v g) (k : Int) (hn : szGraph g ≤ 1048576) : Calls Tryz.prog 7 #[v, .int .i64 k] W fun e w' => ∃ vo, e = .returned (.tuple #[vo, .bool (packOk g k)]) ∧ OwnIntss w' W.heap.size vo (packL g k) ∧ Below W.heap.size W w' := by
  obtain ⟨p, l⟩ := g
  obtain ⟨a, cap, rfl, hi⟩ := h
  exact implPack_at _ _ _ _ _ hi hn k
end Go.Proofs.YtfbmpkdjhhcnpaaGreat

namespace Go.Proofs
open Go.Shelf
def Tryz.lays189_ren : Go.Shelf.Ren := ⟨fun | 189 => 55 | 125 => 106 | 257 => 105 | 128 => 138 | 129 => 139 | 294 => 129 | 295 => 130 | 296 => 131 | 297 => 132 | 298 => 133 | 299 => 134 | 216 => 135 | 300 => 136 | 301 => 137 | 328 => 151 | 329 => 152 | 330 => 153 | 331 => 154 | 332 => 155 | 215 => 156 | 343 => 169 | n => n, fun | 28 => 35 | 3 => 3 | 46 => 114 | 0 => 0 | 51 => 141 | 53 => 143 | 4 => 4 | 183 => 134 | 182 => 133 | 131 => 138 | 5 => 5 | 9 => 9 | 218 => 153 | 222 => 157 | 228 => 168 | 229 => 169 | n => n, fun | n => n⟩
theorem Tryz.lays189 : Go.Proofs.Lays.n189 Tryz.prog Tryz.lays189_ren := {
  mixed := by kernel_rfl
  f125 := Tryz.func106.trans (congrArg some (by kernel_rfl))
  f128 := Tryz.func138.trans (congrArg some (by kernel_rfl))
  f129 := Tryz.func139.trans (congrArg some (by kernel_rfl))
  f189 := Tryz.func55.trans (congrArg some (by kernel_rfl))
  f215 := Tryz.func156.trans (congrArg some (by kernel_rfl))
  f216 := Tryz.func135.trans (congrArg some (by kernel_rfl))
  f257 := Tryz.func105.trans (congrArg some (by kernel_rfl))
  f294 := Tryz.func129.trans (congrArg some (by kernel_rfl))
  f295 := Tryz.func130.trans (congrArg some (by kernel_rfl))
  f296 := Tryz.func131.trans (congrArg some (by kernel_rfl))
  f297 := Tryz.func132.trans (congrArg some (by kernel_rfl))
  f298 := Tryz.func133.trans (congrArg some (by kernel_rfl))
  f299 := Tryz.func134.trans (congrArg some (by kernel_rfl))
  f300 := Tryz.func136.trans (congrArg some (by kernel_rfl))
  f301 := Tryz.func137.trans (congrArg some (by kernel_rfl))
  f328 := Tryz.func151.trans (congrArg some (by kernel_rfl))
  f329 := Tryz.func152.trans (congrArg some (by kernel_rfl))
  f330 := Tryz.func153.trans (congrArg some (by kernel_rfl))
  f331 := Tryz.func154.trans (congrArg some (by kernel_rfl))
  f332 := Tryz.func155.trans (congrArg some (by kernel_rfl))
  f343 := Tryz.func169.trans (congrArg some (by kernel_rfl))
  t0 := Tryz.underlying0
  a0 := Tryz.isAgg0
  z0 := Tryz.sizeOf0
  v0 := Tryz.zeroValue0
  t3 := Tryz.underlying3
  a3 := Tryz.isAgg3
  z3 := Tryz.sizeOf3
  v3 := Tryz.zeroValue3
  t4 := Tryz.underlying4
  a4 := Tryz.isAgg4
  z4 := Tryz.sizeOf4
  v4 := Tryz.zeroValue4
  t5 := Tryz.underlying5
  a5 := Tryz.isAgg5
  z5 := Tryz.sizeOf5
  v5 := Tryz.zeroValue5
  t9 := Tryz.underlying9
  a9 := Tryz.isAgg9
  z9 := Tryz.sizeOf9
  v9 := Tryz.zeroValue9
  t28 := Tryz.underlying35
  a28 := Tryz.isAgg35
  z28 := Tryz.sizeOf35
  v28 := Tryz.zeroValue35
  t46 := Tryz.underlying114
  a46 := Tryz.isAgg114
  z46 := Tryz.sizeOf114
  v46 := Tryz.zeroValue114
  t51 := Tryz.underlying141
  a51 := Tryz.isAgg141
  z51 := Tryz.sizeOf141
  v51 := Tryz.zeroValue141
  t53 := Tryz.underlying143
  a53 := Tryz.isAgg143
  z53 := Tryz.sizeOf143
  v53 := Tryz.zeroValue143
  t131 := Tryz.underlying138
  a131 := Tryz.isAgg138
  z131 := Tryz.sizeOf138
  v131 := Tryz.zeroValue138
  t182 := Tryz.underlying133
  a182 := Tryz.isAgg133
  z182 := Tryz.sizeOf133
  v182 := Tryz.zeroValue133
  t183 := Tryz.underlying134
  a183 := Tryz.isAgg134
  z183 := Tryz.sizeOf134
  v183 := Tryz.zeroValue134
  t218 := Tryz.underlying153
  a218 := Tryz.isAgg153
  z218 := Tryz.sizeOf153
  v218 := Tryz.zeroValue153
  t222 := Tryz.underlying157
  a222 := Tryz.isAgg157
  z222 := Tryz.sizeOf157
  v222 := Tryz.zeroValue157
  t228 := Tryz.underlying168
  a228 := Tryz.isAgg168
  z228 := Tryz.sizeOf168
  v228 := Tryz.zeroValue168
  t229 := Tryz.underlying169
  a229 := Tryz.isAgg169
  z229 := Tryz.sizeOf169
  v229 := Tryz.zeroValue169 }
open Go.Sort Go.RowKit in
theorem Tryz.slices_Sort_int (blk off cap : Nat) (zs : List Int) (w : World) (hH : Holds (Value.int .i64) w blk off zs.toArray) (hblk : blk < w.heap.size) (hsz : zs.length < 4611686018427387904) :
    Calls Tryz.prog 55 #[.slice (some ⟨blk, off, none⟩) zs.length cap] w fun e w' =>
      e = .returned (.tuple #[]) ∧ ∃ n os, w' = grow (putRow (Value.int .i64) (Sort.ahead w n) blk off (zs.mergeSort fun x y => decide (x ≤ y)).toArray) os := Any.slices_Sort_int Tryz.lays189 blk off cap zs w hH hblk hsz
open Go.RowKit Go.Sort in
/-- .. and plain. (LAID: no walk: one application.) -/
theorem Tryz.slices_Sort_int_none (p : Option Addr) (cap : Nat) (w : World) :
    Calls Tryz.prog 55 #[.slice p 0 cap] w fun e w' => e = .returned (.tuple #[]) ∧ w' = w := Any.slices_Sort_int_none Tryz.lays189 p cap w
end Go.Proofs

namespace Go.Proofs.YtfbmpkdjhhcnpaaGreat
open Go.RowKit
set_option maxRecDepth 100000
set_option linter.unusedVariables false
set_option linter.unusedSimpArgs false

def leB (x y : Int) : Bool := decide (x ≤ y)
def srtL (F : List Int) : List Int := F.mergeSort leB
theorem srtL_perm (F : List Int) : (srtL F).Perm F := List.mergeSort_perm _ _
theorem srtL_length (F : List Int) : (srtL F).length = F.length := (srtL_perm F).length_eq
theorem srtL_sorted (F : List Int) : (srtL F).Pairwise (· ≤ ·) := by
  have h := List.pairwise_mergeSort (le := leB) (fun a b c h1 h2 => by simp only [leB, decide_eq_true_eq] at *; omega) (fun a b => by simp only [leB, Bool.or_eq_true, decide_eq_true_eq]; omega) F
  exact h.imp fun h => by simpa [leB] using h
/-! ### the sort -/
theorem holdsI_of_block {w : World} {g : Nat} {cur : Array Value} {e : TypeId} {ss : List Int} (hb : w.heap[g]? = some (.cells cur e (0, 0))) (ht : cur.toList.take ss.length = ss.map (Value.int .i64)) : Go.Sort.Holds (Value.int .i64) w g 0 ss.toArray := by
  intro j hj
  have hj' : j < ss.length := by simpa using hj
  refine ⟨?_, by simp [World.frozen?, hb]⟩
  have h1 : (cur.toList.take ss.length)[j]? = (ss.map (Value.int .i64))[j]? := by rw [ht]
  rw [List.getElem?_take_of_lt hj'] at h1
  simp only [World.cell?, hb, Nat.zero_add]
  simp only [Option.isSome_none, Bool.false_eq_true, if_false]
  rw [← Array.getElem?_toList, h1]
  simp [hj']
theorem heapI_sorted {w : World} {g n : Nat} {os : Array Obj} {cur : Array Value} {e : TypeId} {fr : Nat × Nat} (d : Array Int) (hb : w.heap[g]? = some (.cells cur e fr)) :
    (Go.Sort.grow (Go.Sort.putRow (Value.int .i64) (Go.Sort.ahead w n) g 0 d) os).heap[g]? = some (.cells (Go.Sort.putCells (Value.int .i64) 0 d cur) e fr) := by
  have hg : g < w.heap.size := (Array.getElem?_eq_some_iff.1 hb).1
  rw [Go.Sort.heap_grow_old _ _ (by simpa using hg)]
  simp [Go.Sort.putRow, Go.Sort.mapBlock, Go.Sort.ahead, Array.getElem?_modify, hb, Go.Sort.onCells]
theorem keptI_sorted {w : World} {g n : Nat} {os : Array Obj} (d : Array Int) : Kept (fun k => k = g) w (Go.Sort.grow (Go.Sort.putRow (Value.int .i64) (Go.Sort.ahead w n) g 0 d) os) := by
  refine ⟨rfl, rfl, rfl, by simp, fun k hk hne => ?_⟩
  rw [Go.Sort.heap_grow_old _ _ (by simpa using hk)]
  have : g ≠ k := fun e => hne e.symm
  simp [Go.Sort.putRow, Go.Sort.mapBlock, Go.Sort.ahead, Array.getElem?_modify, this]
theorem takeI_putCells (cur : Array Value) (ts : List Int) (h : ts.length ≤ cur.size) : (Go.Sort.putCells (Value.int .i64) 0 ts.toArray cur).toList.take ts.length = ts.map (Value.int .i64) := by
  apply List.ext_getElem?
  intro j
  by_cases hj : j < ts.length
  · rw [List.getElem?_take_of_lt hj, Array.getElem?_toList]
    simp [Go.Sort.putCells, hj, show j < cur.size by omega]
  · rw [List.getElem?_take_eq_none (by omega), List.getElem?_eq_none (by simp; omega)]
theorem ownI_sorted {w : World} {base g cap n : Nat} {e : TypeId} {os : Array Obj} {cur : Array Value} {ss ts : List Int} (hl : ts.length = ss.length) (hbase : base ≤ g) (hb : w.heap[g]? = some (.cells cur e (0, 0)))
    (h1 : ss.length ≤ cap) (h2 : cap ≤ maxLen) (h3 : cur.size = cap * 1) :
    (Go.Sort.grow (Go.Sort.putRow (Value.int .i64) (Go.Sort.ahead w n) g 0 ts.toArray) os).ownsRow base e 1 (.slice (some ⟨g, 0, none⟩) ss.length cap) ss.length (ts.map (Value.int .i64)) :=
  ⟨by simp [hl], .inr ⟨g, cap, _, rfl, hbase, heapI_sorted _ hb, h1, h2, by simp [Go.Sort.putCells, h3], by rw [Nat.mul_one, ← hl]; exact takeI_putCells cur ts (by omega)⟩⟩

/-- slices.Sort of a slice of the call's own -/
theorem sort_own (W : World) (base : Nat) (v : Value) (F : List Int) (h : OwnInts W base v F) (hn : F.length ≤ 1099511627776) :
    Calls Tryz.prog 55 #[v] W fun e w' => e = .returned (.tuple #[]) ∧ OwnInts w' base v (srtL F) ∧ Kept (fun k => some k = v.ownBlock) W w' := by
  by_cases h0 : F.length = 0
  · have hF : F = [] := List.eq_nil_of_length_eq_zero h0
    subst hF
    obtain ⟨a, cap, rfl, _⟩ := h.form
    refine (Tryz.slices_Sort_int_none a cap W).mono ?_
    rintro e w' ⟨rfl, rfl⟩
    exact ⟨rfl, by simpa [srtL] using h, Kept.refl _ _⟩
  · have h2 := h
    rcases h.2 with ⟨_, e0⟩ | ⟨g, cap, cur, rfl, hb, hg, hnc, hcm, hcs, htake⟩
    · exact absurd e0 h0
    · refine (Tryz.slices_Sort_int g 0 cap F W (holdsI_of_block hg (by simpa using htake)) (Array.getElem?_eq_some_iff.1 hg).1 (by omega)).mono ?_
      rintro e w' ⟨rfl, n, os, rfl⟩
      refine ⟨rfl, ?_, (keptI_sorted _).mono fun k _ hk => by subst hk; rfl⟩
      have h9 := ownI_sorted (n := n) (os := os) (ts := srtL F) (srtL_length F) hb hg hnc hcm hcs
      unfold OwnInts
      rw [srtL_length]
      exact h9
end Go.Proofs.YtfbmpkdjhhcnpaaGreat

namespace Go.Proofs.YtfbmpkdjhhcnpaaGreat
open Go.RowKit
set_option maxRecDepth 100000
set_option linter.unusedVariables false
set_option linter.unusedSimpArgs false

theorem setB_range {p : Int} {l : List BarT} {s : List Int} (h : setB (p, l) s = true) : ∀ x ∈ s, 0 ≤ x ∧ x ≤ (l.length : Int) - 1 := by
  intro x hx
  obtain ⟨i, hi⟩ := List.getElem?_of_mem hx
  have hl := lt_of_getElem? hi
  simp only [setB, Bool.and_eq_true] at h
  have h1 := List.all_eq_true.1 h.1 i (List.mem_range.2 hl)
  simp only [setAt, hi, Option.getD_some, Bool.and_eq_true, inB, decide_eq_true_eq] at h1
  exact h1.1
theorem setB_graph {g : GraphT} {s : List Int} (h : setB g s = true) : isGraphB g = true := by
  simp only [setB, Bool.and_eq_true] at h; exact h.2
theorem setB_srt {p : Int} {l : List BarT} {F : List Int} (hg : isGraphB (p, l) = true) (hr : ∀ x ∈ F, 0 ≤ x ∧ x ≤ (l.length : Int) - 1) : setB (p, l) (srtL F) = decide F.Nodup := by
  by_cases hn : F.Nodup
  · rw [decide_eq_true hn]
    have hn2 : (srtL F).Nodup := (srtL_perm F).nodup_iff.2 hn
    have hs := srtL_sorted F
    simp only [setB, hg, Bool.and_true, List.all_eq_true]
    intro i hi
    have hi := List.mem_range.1 hi
    have e : (srtL F)[i]?.getD 0 = (srtL F)[i] := by rw [List.getElem?_eq_getElem hi]; rfl
    have hm := hr _ ((srtL_perm F).mem_iff.1 (List.getElem_mem hi))
    simp only [setAt, e, Bool.and_eq_true, Bool.or_eq_true, inB, decide_eq_true_eq]
    refine ⟨hm, ?_⟩
    by_cases h0 : i = 0
    · left; simp [h0]
    · right
      have e2 : (srtL F)[i - 1]?.getD 0 = (srtL F)[i - 1] := by rw [List.getElem?_eq_getElem (by omega)]; rfl
      rw [e2]
      have h1 := List.pairwise_iff_getElem.1 hs (i - 1) i (by omega) hi (by omega)
      have h2 := List.pairwise_iff_getElem.1 hn2 (i - 1) i (by omega) hi (by omega)
      omega
  · rw [decide_eq_false hn]
    cases h : setB (p, l) (srtL F) with
    | false => rfl
    | true =>
      have h1 := setB_sorted h
      exact absurd ((srtL_perm F).nodup_iff.1 (h1.imp fun h => Int.ne_of_lt h)) hn
theorem sptB_set {g : GraphT} {s : List Int} (h : sptB g s = true) : setB g s = true := by
  simp only [sptB, frstB, Bool.and_eq_true] at h; exact h.1.1
def packB (mk : Int) (g : GraphT) (k : Int) (l : List (List Int)) : Bool :=
  (l.all (sptB g) && decide l.flatten.Nodup) && ((isGraphB g && inB k 1 mk) && (((l.length : Int) == k) && ((l.flatten.length : Int) == (g.2.length : Int))))
theorem pack_span {mk : Int} {g : GraphT} {k : Int} {l : List (List Int)} {i : Nat} {s : List Int} (hi : l[i]? = some s) (h : sptB g s = false) : packB mk g k l = false := by
  have : l.all (sptB g) = false := List.all_eq_false.2 ⟨s, List.mem_of_getElem? hi, by simp [h]⟩
  unfold packB; rw [this]; rfl
theorem flat_split {l : List (List Int)} {i : Nat} {s : List Int} (hi : l[i]? = some s) : l.flatten = (l.take i).flatten ++ (s ++ (l.drop (i + 1)).flatten) := by
  have hl := lt_of_getElem? hi
  obtain ⟨_, rfl⟩ := List.getElem?_eq_some_iff.1 hi
  have e : l = l.take i ++ l[i] :: l.drop (i + 1) := by rw [← List.drop_eq_getElem_cons hl, List.take_append_drop]
  exact (congrArg List.flatten e).trans (by rw [List.flatten_append, List.flatten_cons])
theorem pack_dup {mk : Int} {g : GraphT} {k : Int} {l : List (List Int)} {i n : Nat} {s : List Int} {x : Int} (hi : l[i]? = some s) (hx : s[n]? = some x) (h : x ∈ (l.take i).flatten ++ s.take n) : packB mk g k l = false := by
  have hnd : ¬ l.flatten.Nodup := by
    intro hn
    have hl := lt_of_getElem? hx
    have e : l.flatten = ((l.take i).flatten ++ s.take n) ++ (x :: (s.drop (n + 1) ++ (l.drop (i + 1)).flatten)) := by
      rw [flat_split hi]
      obtain ⟨_, rfl⟩ := List.getElem?_eq_some_iff.1 hx
      have e2 : s = s.take n ++ s[n] :: s.drop (n + 1) := by rw [← List.drop_eq_getElem_cons hl, List.take_append_drop]
      have e3 : s ++ (l.drop (i + 1)).flatten = (s.take n ++ s[n] :: s.drop (n + 1)) ++ (l.drop (i + 1)).flatten := congrArg (· ++ (l.drop (i + 1)).flatten) e2
      rw [e3]
      simp only [List.append_assoc, List.cons_append]
    rw [e] at hn
    have h3 := (List.nodup_append.1 hn).2.2
    exact h3 x h x List.mem_cons_self rfl
  unfold packB; rw [decide_eq_false hnd, Bool.and_false, Bool.false_and]
theorem pack_end {mk : Int} {g : GraphT} {k : Int} {l : List (List Int)} (h1 : l.all (sptB g) = true) (h2 : l.flatten.Nodup) : packB mk g k l = ((isGraphB g && inB k 1 mk) && (((l.length : Int) == k) && ((l.flatten.length : Int) == (g.2.length : Int)))) := by
  unfold packB; rw [h1, decide_eq_true h2]; rfl
theorem pack_k {mk : Int} {g : GraphT} {k : Int} {l : List (List Int)} (h : inB k 1 mk = false) : packB mk g k l = false := by
  unfold packB; rw [h, Bool.and_false, Bool.false_and, Bool.and_false]
theorem pack_len {mk : Int} {g : GraphT} {k : Int} {l : List (List Int)} (h : ((l.length : Int) == k) = false) : packB mk g k l = false := by
  unfold packB; rw [h, Bool.false_and, Bool.and_false, Bool.and_false]
theorem pack_impl {mk : Int} {p : Int} {lb : List BarT} {k : Int} {l : List (List Int)} (hk : inB k 1 mk = true) (hl : ((l.length : Int) == k) = true) (h1 : l.all (sptB (p, lb)) = true) :
    packB mk (p, lb) k l = (setB (p, lb) (srtL l.flatten) && ((l.flatten.length : Int) == (lb.length : Int))) := by
  have hk1 : 1 ≤ k := by simp only [inB, Bool.and_eq_true, decide_eq_true_eq] at hk; exact hk.1
  have hl1 := eq_of_beq hl
  have hne : 0 < l.length := by omega
  have hs := List.all_eq_true.1 h1
  have hg : isGraphB (p, lb) = true := setB_graph (sptB_set (hs _ (List.getElem_mem hne)))
  have hr : ∀ x ∈ l.flatten, 0 ≤ x ∧ x ≤ (lb.length : Int) - 1 := fun x hx => by
    obtain ⟨s, hsm, hxs⟩ := List.mem_flatten.1 hx
    exact setB_range (sptB_set (hs s hsm)) x hxs
  rw [setB_srt hg hr]
  unfold packB
  rw [h1, hg, hk, hl]
  simp only [Bool.true_and]
theorem flat_len : ∀ (l : List (List Int)), l.flatten.length = sumLen l
  | [] => rfl
  | x :: t => by
    have := flat_len t
    simp only [List.flatten_cons, List.length_append, this, sumLen, List.map_cons, List.sum_cons]

end Go.Proofs.YtfbmpkdjhhcnpaaGreat

