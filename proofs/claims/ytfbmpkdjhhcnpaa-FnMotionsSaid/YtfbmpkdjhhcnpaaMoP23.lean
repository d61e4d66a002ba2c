/- The reference's elimination: what 'l9Reduced' hands back. Conditions: a matrix of at most 64 rows and columns; small numbers. -/
import Derived.Test.YtfbmpkdjhhcnpaaMoP22
import Derived.Test.YtfbmpkdjhhcnpaaMoP05
namespace Go.Proofs.Ytfbmpkdjhhcnpaa
open Go.RowKit Gr
set_option maxRecDepth 100000
set_option linter.unusedVariables false
set_option linter.unusedSimpArgs false

def RetRedS (W : World) (m n : Nat) (s : SS) (e : Ending) (w' : World) : Prop :=
  ∃ va vp, e = .returned (.tuple #[va, vp]) ∧ OwnIntss w' W.heap.size va (toLL s.S m n) ∧ OwnInts w' W.heap.size vp (s.P.map Int.ofNat) ∧ Below W.heap.size W w'
theorem redS_len {m n : Nat} (F : Nat → Nat → Int) {c : Nat} (hc : c ≤ n) : (redS m n F c).P.length ≤ m := by
  rw [(red_sim (m := m) F hc).1]; exact redF_len F c
theorem toLL_take_prim {F : Nat → Nat → Int} {m n k : Nat} (hk : k < m) (hF : ∀ i, i < m → ∀ k, k < n → -9000000000000000000 ≤ F i k ∧ F i k ≤ 9000000000000000000) :
    toLL (fun i => primF n (F i)) (k + 1) n = toLL (fun i => primF n (F i)) k n ++ [prim (rowL n (F k))] := by
  rw [prim_rowL (hF k hk)]
  simp [toLL, List.range_succ]

theorem swapF_comm (F : Nat → Nat → Int) (r p : Nat) : swapF F r p = swapF F p r := by
  funext i
  unfold swapF
  by_cases e1 : i = r <;> by_cases e2 : i = p
  · rw [if_pos e1, if_pos e2, ← e1, e2]
  · rw [if_pos e1, if_neg e2, if_pos e1]
  · rw [if_neg e1, if_pos e2, if_pos e2]
  · rw [if_neg e1, if_neg e2, if_neg e2, if_neg e1]
theorem MatO.outKept {W : World} {base g n cap : Nat} {vs : List Value} {ll : List (List Int)} (h : MatO W base g n cap vs ll) {base' : Nat} {v : Value} {l : List Int} (ho : OwnInts W base' v l) {W' : World} (hk : Kept (fun b => some b = Value.ownBlock (.slice (some ⟨g, 0, none⟩) n cap)) W W') : OwnInts W' base' v l := ho.outer h.out hk

set_option maxHeartbeats 8000000 in
theorem l9Reduced_any (M : List (List Int)) (m n : Nat) (hM : M.length = m) (hrect : ∀ r ∈ M, r.length = n) (hm0 : 0 < m) (hm : m ≤ 64) (hn0 : 0 < n) (hn : n ≤ 64) (F : Nat → Nat → Int) (hF : F = entF M)
    (hFb : ∀ i, i < m → ∀ k, k < n → -9000000000000000000 ≤ F i k ∧ F i k ≤ 9000000000000000000)
    (hok : ∀ c, c ≤ n → ∀ i, i < m → ∀ k, k < n → -2121320343 ≤ (redS m n F c).S i k ∧ (redS m n F c).S i k ≤ 2121320343)
    (W : World) (a : Option Addr) (cap : Nat) (h : IntssAt W a m M) :
    Calls Try.prog 38 #[.slice a m cap] W (RetRedS W m n (redS m n F n)) := by
  have H := Lib.hid h
  have HF : Hid (toLL F m n = M) := Lib.hid (by rw [hF, ← hM]; exact toLL_ent hrect)
  have HOK := Lib.hid hok
  have HFB := Lib.hid hFb
  clear h hF hM hrect hok hFb
  go_enter Try.func38, Try.ntmps38
  go_wp2_with fail
  have hb0 : Below W.heap.size W (W.alloc (.cells #[] 35)) := (Below.refl _ _).alloc (Nat.le_refl _) _
  have h0 : OwnIntss (W.alloc (.cells #[] 35)) W.heap.size (.slice (some ⟨W.heap.size, 0, none⟩) 0 0) [] := ⟨[], World.ownsRow_made W #[] 0 (Nat.le_refl _) (Nat.zero_le _) rfl, IRows.nil _ _⟩
  go_loopw [4, 5] (fun v i wr => ∃ k : Nat, k ≤ m ∧ i = .int .i64 k ∧ OwnIntss wr W.heap.size v (toLL (fun i => primF n (F i)) k n) ∧ Below W.heap.size W wr) (fun _ i _ => m - (intOf i).toNat)
  case atStart => exact ⟨0, Nat.zero_le _, rfl, h0, hb0⟩
  case round =>
    clear h0 hb0
    obtain ⟨k, hk, rfl, ho, hb⟩ := hrel
    have HO := Lib.hid ho
    obtain ⟨vs, hvs, hrs⟩ := ho
    rw [toLL_length] at hvs
    have HV := Lib.hid hvs
    have HVR := Lib.hid hrs
    clear hvs hrs
    have hbz := hb.size
    by_cases hlt : k < m
    · obtain ⟨b, off, ar, cr, r, rfl, hbl, hx, hcell, hi⟩ := H.out.2 k hlt
      have hr : r = rowL n (F k) := by rw [← HF.out, toLL_get hlt] at hx; exact (Option.some.inj hx).symm
      subst hr
      have hcw : wr.cell? ⟨b, off + k, none⟩ = some (.slice ar (rowL n (F k)).length cr) := (hb.cell (p := ⟨b, off + k, none⟩) hbl).trans hcell
      have HI := Lib.hid (hi.below hb)
      clear hx hi hcell
      have hrl : (rowL n (F k)).length ≤ 1048576 := by rw [rowL_length]; omega
      go_wp2_with fail
      refine (l9Clean_any _ _ _ _ _ HI.out hrl).mono ?_
      rintro e w2 ⟨u, rfl, hu, b2⟩
      have HU := Lib.hid hu
      obtain ⟨au, cu, rfl, hui⟩ := hu.form
      clear hui
      have HB2 := Lib.hid b2
      clear hu b2
      have hz := HB2.out.size
      have hTL : (toLL (fun i => primF n (F i)) k n).length < 1099511627776 := by rw [toLL_length]; omega
      have HTL := Lib.hid (toLL_length (fun i => primF n (F i)) k n)
      go_wp2_with (at_builtin; refine appRow rfl (.tmp 18) (.tmp 24) rfl rfl (ownsRow_base HU.out hbz) HB2.out (by rw [HTL.out]; exact HV.out) HVR.out (fun q hq => (HU.out.lt q hq).1) rfl hTL (by omega) ?_; intro v' w3 h3 k3)
      go_roundw
      case rel =>
        refine ⟨k + 1, by omega, by go_num, by rw [toLL_take_prim hlt HFB.out]; exact h3, hb.trans ?_⟩
        have hvs := HV.out
        exact (HB2.out.mono hbz).trans (k3.below (by omega) fun q h1 h2 => by
          have := (World.ownsRow.lt hvs q h2.symm).1
          omega)
      case measure => simp [intOf]; omega
    · obtain rfl : k = m := by omega
      obtain ⟨g, cg, vs0, hve, hmat⟩ := HO.out.mat (by rw [toLL_length]; exact hm0)
      rw [toLL_length] at hve hmat
      subst hve
      have HM0 := Lib.hid hmat
      have hgz := hmat.blk
      obtain ⟨hgz1, hgz2⟩ := hgz
      clear HO hmat HV HVR vs
      have hb1 : Below W.heap.size W (wr.alloc (.cells #[] 3)) := hb.alloc hb.size _
      have ho1 : OwnInts (wr.alloc (.cells #[] 3)) W.heap.size (.slice (some ⟨wr.heap.size, 0, none⟩) 0 0) [] := ownsRow_base (OwnInts.made _ _ (Nat.le_refl _)) hbz
      have hm1 : MatO (wr.alloc (.cells #[] 3)) W.heap.size g k cg vs0 (toLL (fun i => primF n (F i)) k n) := HM0.out.below ((Below.refl _ _).alloc (Nat.le_refl _) _)
      have hap1 : ∀ u ∈ vs0, Apart u (.slice (some ⟨wr.heap.size, 0, none⟩) 0 0) := fun u hu q hq e => by
        have := (HM0.out.rows.lt u hu q hq).2
        simp [Value.ownBlock] at e
        omega
      go_wp2_with fail
      go_loopw [6, 7] (fun pv cv wr => ∃ (c : Nat) (vs : List Value), c ≤ n ∧ cv = .int .i64 c ∧ MatO wr W.heap.size g k cg vs (toLL (redS k n F c).S k n) ∧ OwnInts wr W.heap.size pv ((redS k n F c).P.map Int.ofNat) ∧ (∀ u ∈ vs, Apart u pv) ∧ Below W.heap.size W wr) (fun _ cv _ => n - (intOf cv).toNat)
      case atStart => exact ⟨0, vs0, Nat.zero_le _, rfl, hm1, ho1, hap1, hb1⟩
      case round =>
        clear hb1 ho1 hm1 hap1
        obtain ⟨c, vs, hc, rfl, hmat, hop, hap, hbw⟩ := hrel
        have HM := Lib.hid hmat
        have HP := Lib.hid hop
        have HAP := Lib.hid hap
        have HSB := Lib.hid (HOK.out c hc)
        obtain ⟨ap, cp, rfl, hpi⟩ := hop.form
        have hPl : ((redS k n F c).P.map Int.ofNat).length = (redS k n F c).P.length := by simp
        have hPm := redS_len (m := k) F hc
        have HN : Hid (redS k n F (c + 1) = stepS k n c (redS k n F c)) := Lib.hid rfl
        have HE : Hid (c = n → redS k n F n = redS k n F c) := Lib.hid fun h => by rw [h]
        clear hmat hop hap hpi
        rw [hPl] at HP HAP ⊢
        clear hPl
        generalize redS k n F c = s at *
        generalize hr : s.P.length = r at *
        have HRR := Lib.hid hr
        clear hr
        have hbz2 := hbw.size
        obtain ⟨b0, c0, hv0, hc0, hn0', hz0, hb0, hbb0⟩ := HM.out.at hm0 hn0
        clear hv0 hn0' hz0
        have hm0' : (0 : Int) < (k : Int) := by omega
        by_cases hcn : c < n
        · have hcn' : decide ((c : Int) < (n : Int)) = true := decide_eq_true (by omega)
          have hfg := findF_ge s.S k c r
          have hfl := findF_le (F := s.S) (c := c) (show r ≤ k by omega)
          have HST : Hid (stepS k n c s = if findF s.S k c r < k then ⟨clearF n (swapF s.S r (findF s.S k c r)) r c, s.P ++ [c]⟩ else s) := Lib.hid (by unfold stepS; rw [HRR.out])
          generalize hf : findF s.S k c r = f at *
          have HFF := Lib.hid hf
          clear hf
          go_wp2_with fail
          clear hc0 hb0 hbb0
          go_loop [8] (fun p => ∃ q : Nat, q ≤ k ∧ r ≤ q ∧ p = .int .i64 q ∧ findF s.S k c q = f) (fun p => k - (intOf p).toNat)
          case atStart => exact ⟨r, by omega, Nat.le_refl _, rfl, HFF.out⟩
          case round =>
            obtain ⟨q, hq, hrq, rfl, hfq⟩ := hrel
            by_cases hqm : q < k
            · have hqm' : decide ((q : Int) < (k : Int)) = true := decide_eq_true (by omega)
              obtain ⟨bq, cq, hvq, hcq, hnq, hzq, hbq, hbq2⟩ := HM.out.at hqm hn0
              have hnum := hnq c hcn
              have HVQ := Lib.hid hvq
              clear hvq hnq hzq
              by_cases hx : s.S q c = 0
              · have hfq2 : findF s.S k c (q + 1) = f := by rw [← hfq]; conv => rhs; rw [findF]
                                                            rw [if_pos hqm, if_pos hx]
                have HX := Lib.hid hfq2
                have hx0 : (s.S q c == 0) = true := by simp [hx]
                clear hfq hfq2 hx
                go_wp2_with fail
                go_round
                case rel => exact ⟨q + 1, by omega, by omega, by go_num, HX.out⟩
                case measure => simp [intOf]; omega
              · have hfq2 : f = q := by rw [← hfq, findF, if_pos hqm, if_neg hx]
                have hx0 : (s.S q c == 0) = false := by simp [hx]
                have HFQ := Lib.hid hfq2
                have HXN := Lib.hid hx
                clear hfq hfq2 hx
                have hqm2 : (q == k) = false := by simp; omega
                have hqm3 : ((q : Int) == (k : Int)) = false := by simp; omega
                have hrm : r < k := by omega
                obtain ⟨br, cr, hvr, hcr, hnr, hzr, hbr, hbr2⟩ := HM.out.at hrm hn0
                have HVR := Lib.hid hvr
                clear hvr hnr hzr
                have fz1 := HM.out.froz r
                have fz2 := HM.out.froz q
                have hset := ownsRow_set (k := q) HM.out.out (.slice (some ⟨br, 0, none⟩) n cr)
                have fc : (wr.setCell ⟨g, q, none⟩ (.slice (some ⟨br, 0, none⟩) n cr)).cell? ⟨g, r, none⟩ = some (.slice (some ⟨br, 0, none⟩) n cr) := by
                  rw [World.ownsRow.cellAt hset r (by omega)]
                  by_cases e : q = r
                  · subst e; rw [List.getElem?_set_self (by have := HM.out.len; omega)]
                  · rw [List.getElem?_set_ne e]; exact HVR.out
                have ff : (wr.setCell ⟨g, q, none⟩ (.slice (some ⟨br, 0, none⟩) n cr)).frozen? ⟨g, r, none⟩ = false := World.ownsRow.frozenAt hset r
                clear hset
                have hi1 : (0 : Int) ≤ (r : Int) := by omega
                have hi2 : (r : Int) < (k : Int) := by omega
                have hi3 : (0 : Int) ≤ (q : Int) := by omega
                have hi4 : (q : Int) < (k : Int) := by omega
                go_wp2_with fail
                clear fc ff hcq hcr hnum fz1 fz2 hbq hbr hbq2 hbr2
                have hgk : Kept (fun b => some b = Value.ownBlock (.slice (some ⟨g, 0, none⟩) k cg)) wr ((wr.setCell ⟨g, q, none⟩ (.slice (some ⟨br, 0, none⟩) n cr)).setCell ⟨g, r, none⟩ (.slice (some ⟨bq, 0, none⟩) n cq)) := Kept.trans (keptSet rfl) (keptSet rfl)
                have hm2 : MatO ((wr.setCell ⟨g, q, none⟩ (.slice (some ⟨br, 0, none⟩) n cr)).setCell ⟨g, r, none⟩ (.slice (some ⟨bq, 0, none⟩) n cq)) W.heap.size g k cg ((vs.set q (.slice (some ⟨br, 0, none⟩) n cr)).set r (.slice (some ⟨bq, 0, none⟩) n cq)) (toLL (swapF s.S r q) k n) := by
                  rw [swapF_comm]; exact HM.out.swapAt hqm hrm HVQ.out HVR.out
                have hp2 := HM.out.outKept HP.out hgk
                have hb2 : Below W.heap.size W ((wr.setCell ⟨g, q, none⟩ (.slice (some ⟨br, 0, none⟩) n cr)).setCell ⟨g, r, none⟩ (.slice (some ⟨bq, 0, none⟩) n cq)) := (hbw.setCell hgz2 _).setCell hgz2 _
                have hap2 : ∀ u ∈ (vs.set q (.slice (some ⟨br, 0, none⟩) n cr)).set r (.slice (some ⟨bq, 0, none⟩) n cq), Apart u (.slice ap r cp) := by
                  intro u hu
                  rcases List.mem_or_eq_of_mem_set hu with hu | rfl
                  · rcases List.mem_or_eq_of_mem_set hu with hu | rfl
                    · exact HAP.out u hu
                    · exact HAP.out _ (List.mem_of_getElem? HVR.out)
                  · exact HAP.out _ (List.mem_of_getElem? HVQ.out)
                have hvr2 : ((vs.set q (.slice (some ⟨br, 0, none⟩) n cr)).set r (.slice (some ⟨bq, 0, none⟩) n cq))[r]? = some (.slice (some ⟨bq, 0, none⟩) n cq) := List.getElem?_set_self (by have := HM.out.len; simp; omega)
                have hN3 : redS k n F (c + 1) = ⟨clearF n (swapF s.S r q) r c, s.P ++ [c]⟩ := by
                  rw [HN.out, HST.out, HFQ.out, if_pos hqm]
                have hGb : ∀ i, i < k → ∀ j, j < n → -2121320343 ≤ swapF s.S r q i j ∧ swapF s.S r q i j ≤ 2121320343 := by
                  intro i hi j hj
                  unfold swapF
                  split
                  · exact HSB.out q hqm j hj
                  · split
                    · exact HSB.out r hrm j hj
                    · exact HSB.out i hi j hj
                clear hgk
                generalize ((wr.setCell ⟨g, q, none⟩ (.slice (some ⟨br, 0, none⟩) n cr)).setCell ⟨g, r, none⟩ (.slice (some ⟨bq, 0, none⟩) n cq)) = w2 at *
                generalize (vs.set q (.slice (some ⟨br, 0, none⟩) n cr)).set r (.slice (some ⟨bq, 0, none⟩) n cq) = vs2 at *
                generalize swapF s.S r q = G at *
                have HM2 := Lib.hid hm2
                have HP2 : Hid (OwnInts w2 W.heap.size (.slice ap r cp) (s.P.map Int.ofNat)) := Lib.hid hp2
                have HAP2 := Lib.hid hap2
                have HVR2 := Lib.hid hvr2
                have HN3 := Lib.hid hN3
                have HGB := Lib.hid hGb
                clear hm2 hp2 hap2 hvr2 hN3 hGb
                go_loopw [10] (fun iv w3 => ∃ (i : Nat) (vs3 : List Value), i ≤ k ∧ iv = .int .i64 i ∧ MatO w3 W.heap.size g k cg vs3 (toLL (fun a => if a < i then clearF n G r c a else G a) k n) ∧ vs3[r]? = some (.slice (some ⟨bq, 0, none⟩) n cq) ∧ OwnInts w3 W.heap.size (.slice ap r cp) (s.P.map Int.ofNat) ∧ (∀ u ∈ vs3, Apart u (.slice ap r cp)) ∧ Below W.heap.size W w3) (fun iv _ => k - (intOf iv).toNat)
                case atStart => exact ⟨0, vs2, Nat.zero_le _, rfl, by simpa using HM2.out, HVR2.out, HP2.out, HAP2.out, hb2⟩
                case round =>
                  clear hb2
                  obtain ⟨i, vs3, hi, rfl, hm3, hvr3, hp3, hap3, hb3⟩ := hrel
                  have HM3 := Lib.hid hm3
                  have HVR3 := Lib.hid hvr3
                  have HP3 := Lib.hid hp3
                  have HAP3 := Lib.hid hap3
                  clear hm3 hvr3 hp3 hap3
                  have HCONV : Hid ((clearF n G r c i = G i) → toLL (fun a => if a < i then clearF n G r c a else G a) k n = toLL (fun a => if a < i + 1 then clearF n G r c a else G a) k n) := Lib.hid fun e => toLL_congr fun a ha j hj => by
                    by_cases e1 : a < i
                    · rw [if_pos e1, if_pos (by omega)]
                    · by_cases e2 : a = i
                      · rw [if_neg e1, if_pos (by omega), e2, e]
                      · rw [if_neg e1, if_neg (by omega)]
                  have hb3z := hb3.size
                  by_cases hilt : i < k
                  · by_cases hir : i = r
                    · have hir1 : ((i : Int) != (r : Int)) = false := by simp; omega
                      have hir2 : (i != r) = false := by simp; omega
                      have HIR := Lib.hid hir
                      clear hir
                      go_wp2_with fail
                      go_roundw
                      case rel =>
                        exact ⟨i + 1, vs3, by omega, by go_num, by rw [← HCONV.out (by unfold clearF; rw [if_pos HIR.out])]; exact HM3.out, HVR3.out, HP3.out, HAP3.out, hb3⟩
                      case measure => simp [intOf]; omega
                    · have hir1 : ((i : Int) != (r : Int)) = true := by simp; omega
                      have hir2 : (i != r) = true := by simp; omega
                      have HIR := Lib.hid hir
                      clear hir
                      obtain ⟨bi, ci, hvi, hci, hni, hzi, hbi, hbi2⟩ := HM3.out.at hilt hn0
                      have hni' : ∀ j, j < n → wr.cell? ⟨bi, j, none⟩ = some (.int .i64 (G i j)) := fun j hj => by rw [hni j hj]; simp
                      have hnic := hni' c hcn
                      have HNI := Lib.hid hni'
                      have HVI := Lib.hid hvi
                      clear hvi hni hni' hzi
                      by_cases hgz : G i c = 0
                      · have hg1 : (G i c != 0) = false := by simp [hgz]
                        have HGZ := Lib.hid hgz
                        clear hgz
                        go_wp2_with fail
                        go_roundw
                        case rel =>
                          exact ⟨i + 1, vs3, by omega, by go_num, by rw [← HCONV.out (by unfold clearF; rw [if_neg HIR.out, if_pos HGZ.out])]; exact HM3.out, HVR3.out, HP3.out, HAP3.out, hb3⟩
                        case measure => simp [intOf]; omega
                      · have hg1 : (G i c != 0) = true := by simp [hgz]
                        have HGZ := Lib.hid hgz
                        clear hgz
                        obtain ⟨br3, cr3, hv3, hc3, hn3, hz3, hb3r, hb3b⟩ := HM3.out.at hrm hn0
                        have hv3e := HVR3.out
                        rw [hv3] at hv3e
                        simp only [Option.some.injEq, Value.slice.injEq, Addr.mk.injEq, and_true, true_and] at hv3e
                        obtain ⟨rfl, rfl⟩ := hv3e
                        have HNR : Hid (∀ j, j < n → wr.cell? ⟨br3, j, none⟩ = some (.int .i64 (G r j))) := Lib.hid fun j hj => by
                          rw [hn3 j hj]
                          have e0 : clearF n G r c r = G r := by unfold clearF; rw [if_pos rfl]
                          by_cases e1 : r < i
                          · simp only [if_pos e1, e0]
                          · simp only [if_neg e1]
                        clear hv3 hn3 hz3 hc3
                        have fz3 := HM3.out.froz i
                        have hgzz := HM3.out.blk
                        obtain ⟨hgzz, _⟩ := hgzz
                        go_wp2_with fail
                        refine (l9Without_any n c hcn hn (G i) (G r) (HGB.out i hilt) (HGB.out r hrm) HGZ.out _ bi br3 _ _ hbi hb3r HNI.out HNR.out).mono ?_
                        rintro e w5 ⟨u, rfl, hu, b5⟩
                        obtain ⟨au, cu, rfl, hui⟩ := hu.form
                        rw [rowL_length] at hu ⊢
                        have HU := Lib.hid hu
                        have HB5 := Lib.hid b5
                        have hci5 := ((bcell b5).1 g i hgzz).trans hci
                        have hfz5 := ((bcell b5).2 g i hgzz).trans fz3
                        have hz5 := b5.size
                        clear hu b5 hui hci hnic fz3
                        go_wp2_with fail
                        have HMP := Lib.hid (HM3.out.put (k := i) HVI.out (toLL_get hilt) (Kept.of_below HB5.out) (ownsRow_base HU.out hb3z) (.inr fun b hb => (HU.out.lt b hb).1))
                        have HM5 := Lib.hid (HM3.out.below HB5.out)
                        have HP5 := Lib.hid (HP3.out.below HB5.out)
                        go_roundw
                        case rel =>
                          refine ⟨i + 1, vs3.set i (.slice au n cu), by omega, by go_num, ?_, ?_, HM5.out.outKept HP5.out (keptSet rfl), ?_, (hb3.step HB5.out).setCell hgz2 _⟩
                          · have h4 := HMP.out
                            rw [toLL_set] at h4
                            rwa [toLL_congr (H := fun a => if a < i + 1 then clearF n G r c a else G a) (fun a ha j hj => by
                              by_cases e2 : a = i
                              · rw [if_pos e2, if_pos (by omega), e2]; unfold clearF; rw [if_neg HIR.out, if_neg HGZ.out]
                              · rw [if_neg e2]
                                by_cases e1 : a < i
                                · rw [if_pos e1, if_pos (by omega)]
                                · rw [if_neg e1, if_neg (by omega)])] at h4
                          · rw [List.getElem?_set_ne HIR.out]; exact HVR3.out
                          · intro u hu
                            rcases List.mem_or_eq_of_mem_set hu with hu | rfl
                            · exact HAP3.out u hu
                            · intro b h1 h2
                              have := (HU.out.lt b h1).1
                              have := (HP3.out.lt b h2).2
                              omega
                        case measure => simp [intOf]; omega
                  · obtain rfl : i = k := by omega
                    have hm4 : MatO wr W.heap.size g i cg vs3 (toLL (redS i n F (c + 1)).S i n) := by
                      rw [HN3.out]
                      have h4 := HM3.out
                      rwa [toLL_congr (H := clearF n G r c) (fun a ha j hj => by rw [if_pos ha])] at h4
                    have HM4 := Lib.hid hm4
                    have hplen : (s.P.map Int.ofNat).length < 1099511627776 := by rw [List.length_map, HRR.out]; omega
                    have HPL := Lib.hid hplen
                    clear hm4 hplen
                    go_wp2_with (at_builtin; refine app1At rfl (.tmp 109) (.tmp 111) rfl rfl HP3.out (c : Int) rfl HPL.out hb3z ?_; intro v' w5 h5 k5 ha5)
                    go_roundw
                    case rel =>
                      have hpb : ∀ z, some z = Value.ownBlock (.slice ap r cp) → W.heap.size ≤ z := fun z hz => (HP3.out.lt z hz.symm).1
                      refine ⟨c + 1, vs3, by omega, by go_num, ?_, ?_, ?_, hb3.trans (k5.below hb3z fun z h1 h2 => by have := hpb z h2; omega)⟩
                      · refine ⟨k5.ownsRow HM4.out.out fun z h1 h2 => outer_apart HM4.out.out HP3.out z h1 h2.symm, HM4.out.rows.kept k5 fun u hu z h1 h2 => HAP3.out u hu z h1 h2.symm⟩
                      · rw [HN3.out]
                        show OwnInts w5 W.heap.size v' ((s.P ++ [c]).map Int.ofNat)
                        rw [List.map_append]
                        exact h5
                      · intro u hu b h1 h2
                        rcases ha5 with ha5 | ha5
                        · rw [ha5] at h2; exact HAP3.out u hu b h1 h2
                        · have := ha5 b h2
                          have := (HM3.out.rows.lt u hu b h1).2
                          omega
                    case measure => simp [intOf]; omega
            · obtain rfl : q = k := by omega
              have hqm' : decide ((q : Int) < (q : Int)) = false := decide_eq_false (by omega)
              have hfq2 : f = q := by rw [← hfq, findF, if_neg hqm]
              have HN2 : Hid (redS q n F (c + 1) = s) := Lib.hid (by rw [HN.out, HST.out, if_neg (by omega)])
              clear hfq hfq2
              go_wp2_with fail
              go_roundw
              case rel => exact ⟨c + 1, vs, by omega, by go_num, by rw [HN2.out]; exact HM.out, by rw [HN2.out]; exact HP.out, HAP.out, hbw⟩
              case measure => simp [intOf]; omega
        · have HF2 := Lib.hid (HE.out (by omega))
          go_wp2_with fail
          go_ret2
          refine ⟨_, _, rfl, ?_, ?_, hbw⟩
          · rw [HF2.out]; exact HM.out.own
          · rw [HF2.out]; exact HP.out
end Go.Proofs.Ytfbmpkdjhhcnpaa

namespace Go.Proofs.Ytfbmpkdjhhcnpaa
open Go.RowKit Gr
set_option maxRecDepth 100000
set_option linter.unusedVariables false
set_option linter.unusedSimpArgs false

theorem sq_small {x B : Int} (h : x * x ≤ B) (hB : B ≤ 4500000000000000000) : -2121320343 ≤ x ∧ x ≤ 2121320343 := by
  constructor
  · rcases Int.lt_or_le x (-2121320343) with h1 | h1
    · have h2 : 0 ≤ (-2121320344 - x) * (-2121320344 - x) := Gr.mul_self_nonneg' _
      have h3 : 0 ≤ (-2121320344 - x) := by omega
      have h4 := Int.mul_nonneg h3 (show (0 : Int) ≤ 2121320344 by omega)
      rw [Int.sub_mul, Int.mul_sub, Int.mul_sub] at h2
      rw [Int.sub_mul] at h4
      generalize x * x = z at *
      omega
    · exact h1
  · rcases Int.lt_or_le 2121320343 x with h1 | h1
    · have h3 : 0 ≤ (x - 2121320344) := by omega
      have h2 : 0 ≤ (x - 2121320344) * (x - 2121320344) := Gr.mul_self_nonneg' _
      have h4 := Int.mul_nonneg h3 (show (0 : Int) ≤ 2121320344 by omega)
      rw [Int.sub_mul, Int.mul_sub, Int.mul_sub] at h2
      rw [Int.sub_mul] at h4
      generalize x * x = z at *
      omega
    · exact h1
theorem SOk_of {m n : Nat} {F : Nat → Nat → Int} {B : Int} (hB : Bnd m n F B) (hb : B ≤ 4500000000000000000) {c : Nat} (hc : c ≤ n) :
    SOk m n (redF m F c) ∧ ∀ i, i < m → ∀ k, k < n → -2121320343 ≤ (redS m n F c).S i k ∧ (redS m n F c).S i k ≤ 2121320343 := by
  obtain ⟨X, hI⟩ := Inv.all (m := m) (n := n) F hc
  have h1 : ∀ i, i < m → ∀ k, k < n → -2121320343 ≤ (redF m F c).F i k ∧ (redF m F c).F i k ≤ 2121320343 := fun i hi k hk => sq_small (hB.num hI hi hk) hb
  refine ⟨⟨hI.nz, sq_small (hB.last hI) hb, h1⟩, fun i hi k hk => ?_⟩
  rw [(red_sim (m := m) F hc).2 i hi k hk]
  have h2 := primF_bd (n := n) (f := (redF m F c).F i) (b := 2121320343) (fun k hk => by have := h1 i hi k hk; omega) hk
  omega

/-- the empty matrix -/
theorem redF_zero (F : Nat → Nat → Int) (n : Nat) : redF 0 F n = ⟨F, [], 1⟩ := by
  induction n with
  | zero => rfl
  | succ n ih => show stepF 0 n (redF 0 F n) = _; rw [ih]; rfl
theorem redS_zero (F : Nat → Nat → Int) (n c : Nat) : redS 0 n F c = ⟨fun i => primF n (F i), []⟩ := by
  induction c with
  | zero => rfl
  | succ c ih =>
    show stepS 0 n c (redS 0 n F c) = _
    rw [ih]; unfold stepS
    rw [if_neg (by have := findF_ge (fun i => primF n (F i)) 0 c ([] : List Nat).length; omega)]
set_option maxHeartbeats 4000000 in
theorem reduced_nil (n : Nat) (hn : n ≤ 64) (F : Nat → Nat → Int) (W : World) (a : Option Addr) (cap : Nat) :
    Calls Try.prog 49 #[.slice a 0 cap, .int .i64 n] W (RetRed W 0 n (redF 0 F n)) := by
  have hz := Lib.hid (redF_zero F n)
  go_enter Try.func49, Try.ntmps49
  go_wp2_with fail
  refine (copyLists_any _ _ _ [] _ ⟨rfl, fun k hk => absurd hk (Nat.not_lt_zero _)⟩ (Nat.zero_le _) (fun r hr => by simp at hr)).mono ?_
  rintro e w1 ⟨v, rfl, ho, hb⟩
  obtain ⟨av, cv, rfl, _⟩ := ho.form
  have HO := Lib.hid ho
  clear ho
  have hl : ([] : List (List Int)).length = 0 := rfl
  rw [hl]
  have hb1 : Below W.heap.size W (w1.alloc (.cells #[] 3)) := hb.alloc hb.size _
  have ho1 : OwnInts (w1.alloc (.cells #[] 3)) W.heap.size (.slice (some ⟨w1.heap.size, 0, none⟩) 0 0) [] := ownsRow_base (OwnInts.made _ _ (Nat.le_refl _)) hb.size
  have HO1 := Lib.hid ho1
  have HX := Lib.hid (HO.out.below ((Below.refl _ _).alloc (Nat.le_refl _) (.cells #[] 3)))
  clear ho1
  by_cases h0 : (0 : Int) < (n : Int)
  · go_wp2_with fail
    go_loopw [8, 9, 10] (fun pv dv cv2 wr => pv = .slice (some ⟨w1.heap.size, 0, none⟩) 0 0 ∧ dv = .int .i64 1 ∧ cv2 = .int .i64 0 ∧ wr = w1.alloc (.cells #[] 3)) (fun _ _ _ _ => 0)
    case atStart => exact ⟨rfl, rfl, rfl, rfl⟩
    case round =>
      obtain ⟨rfl, rfl, rfl, rfl⟩ := hrel
      go_wp2_with fail
      go_ret3
      exact ⟨_, _, by rw [hz.out]; rfl, by rw [hz.out]; exact HX.out, by rw [hz.out]; exact HO1.out, hb1⟩
  · go_wp2_with fail
    go_loopw [8, 9, 10] (fun pv dv cv2 wr => pv = .slice (some ⟨w1.heap.size, 0, none⟩) 0 0 ∧ dv = .int .i64 1 ∧ cv2 = .int .i64 0 ∧ wr = w1.alloc (.cells #[] 3)) (fun _ _ _ _ => 0)
    case atStart => exact ⟨rfl, rfl, rfl, rfl⟩
    case round =>
      obtain ⟨rfl, rfl, rfl, rfl⟩ := hrel
      go_wp2_with fail
      go_ret3
      exact ⟨_, _, by rw [hz.out]; rfl, by rw [hz.out]; exact HX.out, by rw [hz.out]; exact HO1.out, hb1⟩
set_option maxHeartbeats 4000000 in
theorem l9Reduced_nil (n : Nat) (F : Nat → Nat → Int) (W : World) (a : Option Addr) (cap : Nat) :
    Calls Try.prog 38 #[.slice a 0 cap] W (RetRedS W 0 n (redS 0 n F n)) := by
  have hz := Lib.hid (redS_zero F n n)
  have hb0 : Below W.heap.size W (W.alloc (.cells #[] 35)) := (Below.refl _ _).alloc (Nat.le_refl _) _
  have h0 : OwnIntss (W.alloc (.cells #[] 35)) W.heap.size (.slice (some ⟨W.heap.size, 0, none⟩) 0 0) [] := ⟨[], World.ownsRow_made W #[] 0 (Nat.le_refl _) (Nat.zero_le _) rfl, IRows.nil _ _⟩
  have hb1 := hb0.alloc hb0.size (.cells #[] 3)
  have HX := Lib.hid (h0.below ((Below.refl _ _).alloc (Nat.le_refl _) (.cells #[] 3)))
  have ho1 : OwnInts ((W.alloc (.cells #[] 35)).alloc (.cells #[] 3)) W.heap.size (.slice (some ⟨W.heap.size + 1, 0, none⟩) 0 0) [] := by
    have h9 := OwnInts.made (W.alloc (.cells #[] 35)) W.heap.size (by simp)
    simpa using h9
  have HO1 := Lib.hid ho1
  clear ho1 h0
  go_enter Try.func38, Try.ntmps38
  go_wp2_with fail
  go_loopw [4, 5] (fun ov iv wr => ov = .slice (some ⟨W.heap.size, 0, none⟩) 0 0 ∧ iv = .int .i64 0 ∧ wr = W.alloc (.cells #[] 35)) (fun _ _ _ => 0)
  case atStart => exact ⟨rfl, rfl, rfl⟩
  case round =>
    obtain ⟨rfl, rfl, rfl⟩ := hrel
    go_wp2_with fail
    go_loopw [6, 7] (fun pv iv wr => pv = .slice (some ⟨W.heap.size + 1, 0, none⟩) 0 0 ∧ iv = .int .i64 0 ∧ wr = (W.alloc (.cells #[] 35)).alloc (.cells #[] 3)) (fun _ _ _ => 0)
    case atStart => exact ⟨rfl, rfl, rfl⟩
    case round =>
      obtain ⟨rfl, rfl, rfl⟩ := hrel
      go_wp2_with fail
      go_ret2
      exact ⟨_, _, rfl, by rw [hz.out]; exact HX.out, by rw [hz.out]; exact HO1.out, hb1⟩

/-- both, for a matrix whose minors are small -/
structure Fit (M : List (List Int)) (n : Nat) (B : Int) : Prop where
  rect : ∀ r ∈ M, r.length = n
  m64 : M.length ≤ 64
  n0 : 0 < n
  n64 : n ≤ 64
  bnd : Bnd M.length n (entF M) B
  small : B ≤ 4500000000000000000
theorem Fit.num {M : List (List Int)} {n : Nat} {B : Int} (h : Fit M n B) : ∀ i, i < M.length → ∀ k, k < n → -9000000000000000000 ≤ entF M i k ∧ entF M i k ≤ 9000000000000000000 := by
  intro i hi k hk
  have := (SOk_of h.bnd h.small (Nat.zero_le n)).1.2.2 i hi k hk
  have e : (redF M.length (entF M) 0).F = entF M := rfl
  rw [e] at this
  omega
theorem reduced_fit (M : List (List Int)) (n : Nat) (B : Int) (hf : Fit M n B) (W : World) (a : Option Addr) (cap : Nat) (h : IntssAt W a M.length M) :
    Calls Try.prog 49 #[.slice a M.length cap, .int .i64 n] W (RetRed W M.length n (redF M.length (entF M) n)) := by
  by_cases hm0 : 0 < M.length
  · exact reduced_any M M.length n rfl hf.rect hm0 hf.m64 hf.n0 hf.n64 _ rfl (fun c hc => (SOk_of hf.bnd hf.small hc).1) W a cap h
  · have e : M.length = 0 := by omega
    rw [e]; exact reduced_nil n hf.n64 _ W a cap
theorem l9Reduced_fit (M : List (List Int)) (n : Nat) (B : Int) (hf : Fit M n B) (W : World) (a : Option Addr) (cap : Nat) (h : IntssAt W a M.length M) :
    Calls Try.prog 38 #[.slice a M.length cap] W (RetRedS W M.length n (redS M.length n (entF M) n)) := by
  by_cases hm0 : 0 < M.length
  · exact l9Reduced_any M M.length n rfl hf.rect hm0 hf.m64 hf.n0 hf.n64 _ rfl hf.num (fun c hc => (SOk_of hf.bnd hf.small hc).2) W a cap h
  · have e : M.length = 0 := by omega
    rw [e]; exact l9Reduced_nil n _ W a cap
end Go.Proofs.Ytfbmpkdjhhcnpaa

