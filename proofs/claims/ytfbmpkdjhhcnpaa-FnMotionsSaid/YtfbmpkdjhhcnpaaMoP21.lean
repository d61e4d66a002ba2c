/- The program's elimination without fractions: what 'reduced' hands back. Conditions: a matrix of at most 64 rows and columns; the numbers that arise are small (SOk), which Eli proves. -/
import Derived.Test.YtfbmpkdjhhcnpaaMoP20
import Derived.StillTailTactics
import Derived.IntWalk
import Derived.OwnWalk
import Derived.Test.YtfbmpkdjhhcnpaaMoP01
namespace Go.Proofs.Ytfbmpkdjhhcnpaa
open Go.RowKit Gr
set_option maxRecDepth 100000
set_option linter.unusedVariables false
set_option linter.unusedSimpArgs false

theorem redF_stop {m : Nat} {F : Nat → Nat → Int} {c : Nat} (h : m ≤ (redF m F c).P.length) {e : Nat} (he : c ≤ e) : redF m F e = redF m F c := by
  induction e with
  | zero => obtain rfl : c = 0 := by omega
            rfl
  | succ e ih =>
    by_cases e1 : c = e + 1
    · rw [e1]
    · have h1 := ih (by omega)
      show stepF m e (redF m F e) = _
      rw [h1]
      unfold stepF
      rw [if_neg (by omega)]
theorem redF_len {m : Nat} (F : Nat → Nat → Int) (c : Nat) : (redF m F c).P.length ≤ m := by
  obtain ⟨X, h⟩ := Inv.all (m := m) (n := c) F (c := c) (Nat.le_refl _)
  exact h.len
theorem prod_bd {x y : Int} (h1 : -2121320343 ≤ x ∧ x ≤ 2121320343) (h2 : -2121320343 ≤ y ∧ y ≤ 2121320343) : -4499999997638437649 ≤ x * y ∧ x * y ≤ 4499999997638437649 := by
  have a : (2121320343 - x) * (2121320343 - y) ≥ 0 := Int.mul_nonneg (by omega) (by omega)
  have b : (2121320343 + x) * (2121320343 + y) ≥ 0 := Int.mul_nonneg (by omega) (by omega)
  have c : (2121320343 - x) * (2121320343 + y) ≥ 0 := Int.mul_nonneg (by omega) (by omega)
  have d : (2121320343 + x) * (2121320343 - y) ≥ 0 := Int.mul_nonneg (by omega) (by omega)
  rw [Int.sub_mul, Int.mul_sub, Int.mul_sub] at a
  rw [Int.add_mul, Int.mul_add, Int.mul_add] at b
  rw [Int.sub_mul, Int.mul_add, Int.mul_add] at c
  rw [Int.add_mul, Int.mul_sub, Int.mul_sub] at d
  generalize x * y = z at *
  omega

def RetRed (W : World) (m n : Nat) (s : ES) (e : Ending) (w' : World) : Prop :=
  ∃ va vp, e = .returned (.tuple #[va, vp, .int .i64 s.d]) ∧ OwnIntss w' W.heap.size va (toLL s.F m n) ∧ OwnInts w' W.heap.size vp (s.P.map Int.ofNat) ∧ Below W.heap.size W w'

set_option maxHeartbeats 8000000 in
theorem reduced_any (M : List (List Int)) (m n : Nat) (hM : M.length = m) (hrect : ∀ r ∈ M, r.length = n) (hm0 : 0 < m) (hm : m ≤ 64) (hn0 : 0 < n) (hn : n ≤ 64) (F : Nat → Nat → Int) (hF : F = entF M) (hok : ∀ c, c ≤ n → SOk m n (redF m F c))
    (W : World) (a : Option Addr) (cap : Nat) (h : IntssAt W a m M) :
    Calls Try.prog 49 #[.slice a m cap, .int .i64 n] W (RetRed W m n (redF m F n)) := by
  have H := Lib.hid h
  have HF : Hid (toLL F m n = M) := Lib.hid (by rw [hF, ← hM]; exact toLL_ent hrect)
  have HR := Lib.hid hrect
  have HOK := Lib.hid hok
  clear h hF hM hrect hok
  go_enter Try.func49, Try.ntmps49
  go_wp2_with fail
  refine (copyLists_any _ _ _ _ _ H.out (by omega) (fun r hr => by rw [HR.out r hr]; omega)).mono ?_
  rintro e w1 ⟨v, rfl, ho, hb⟩
  rw [← HF.out] at ho
  obtain ⟨g, cg, vs0, rfl, hmat⟩ := ho.mat (by rw [toLL_length]; exact hm0)
  rw [toLL_length] at hmat
  simp only [toLL_length]
  have HM0 := Lib.hid hmat
  clear ho hmat
  have hb1 : Below W.heap.size W (w1.alloc (.cells #[] 3)) := hb.alloc hb.size _
  have ho1 : OwnInts (w1.alloc (.cells #[] 3)) w1.heap.size (.slice (some ⟨w1.heap.size, 0, none⟩) 0 0) [] := OwnInts.made _ _ (Nat.le_refl _)
  have hm1 : MatO (w1.alloc (.cells #[] 3)) W.heap.size g m cg vs0 (toLL F m n) := HM0.out.below ((Below.refl _ _).alloc (Nat.le_refl _) _)
  have hlt1 : ∀ u ∈ vs0, ∀ q, u.ownBlock = some q → q < w1.heap.size := fun u hu q hq => (HM0.out.rows.lt u hu q hq).2
  have hgz := HM0.out.blk
  obtain ⟨hgz1, hgz2⟩ := hgz
  have hbz := hb.size
  go_wp2_with fail
  go_loopw [8, 9, 10] (fun pv dv cv wr => ∃ (c : Nat) (vs : List Value), c ≤ n ∧ cv = .int .i64 c ∧ MatO wr W.heap.size g m cg vs (toLL (redF m F c).F m n) ∧ OwnInts wr w1.heap.size pv ((redF m F c).P.map Int.ofNat) ∧ (∀ u ∈ vs, ∀ q, u.ownBlock = some q → q < w1.heap.size) ∧ dv = .int .i64 (redF m F c).d ∧ Below W.heap.size W wr ∧ w1.heap.size ≤ wr.heap.size) (fun _ _ cv _ => n - (intOf cv).toNat)
  case atStart => exact ⟨0, vs0, Nat.zero_le _, rfl, hm1, ho1, hlt1, rfl, hb1, by simp⟩
  case round =>
    clear hb1 ho1 hm1 hlt1
    obtain ⟨c, vs, hc, rfl, hmat, hop, hlt, rfl, hbw, hzw⟩ := hrel
    have HM := Lib.hid hmat
    have HP := Lib.hid hop
    have HLT := Lib.hid hlt
    have hso := HOK.out c hc
    obtain ⟨ap, cp, rfl, hpi⟩ := hop.form
    have hPl : ((redF m F c).P.map Int.ofNat).length = (redF m F c).P.length := by simp
    have hPm := redF_len (m := m) F c
    have HN : Hid (redF m F (c + 1) = stepF m c (redF m F c)) := Lib.hid rfl
    have HS : Hid (m ≤ (redF m F c).P.length → redF m F n = redF m F c) := Lib.hid fun h => redF_stop h hc
    have HE : Hid (c = n → redF m F n = redF m F c) := Lib.hid fun h => by rw [h]
    clear hmat hop hlt hpi
    rw [hPl] at HP ⊢
    clear hPl
    generalize redF m F c = s at *
    obtain ⟨hd0, hd1, hsb⟩ := hso
    have HSB := Lib.hid hsb
    clear hsb
    generalize hr : s.P.length = r at *
    have HRR := Lib.hid hr
    clear hr
    by_cases hcn : c < n
    · have hcn' : decide ((c : Int) < (n : Int)) = true := decide_eq_true (by omega)
      by_cases hrm : r < m
      · have hrm' : decide ((r : Int) < (m : Int)) = true := decide_eq_true (by omega)
        have hfg := findF_ge s.F m c r
        have hfl := findF_le (F := s.F) (c := c) (show r ≤ m by omega)
        have HST : Hid (stepF m c s = if findF s.F m c r < m then ⟨elimF (swapF s.F r (findF s.F m c r)) r c s.d, s.P ++ [c], s.F (findF s.F m c r) c⟩ else s) := Lib.hid (by unfold stepF; rw [HRR.out, if_pos hrm])
        generalize hf : findF s.F m c r = f at *
        have HFF := Lib.hid hf
        clear hf
        go_wp2_with fail
        go_loop [12] (fun p => ∃ q : Nat, q ≤ m ∧ r ≤ q ∧ p = .int .i64 q ∧ findF s.F m c q = f) (fun p => m - (intOf p).toNat)
        case atStart => exact ⟨r, by omega, Nat.le_refl _, rfl, HFF.out⟩
        case round =>
          obtain ⟨q, hq, hrq, rfl, hfq⟩ := hrel
          by_cases hqm : q < m
          · have hqm' : decide ((q : Int) < (m : Int)) = true := decide_eq_true (by omega)
            obtain ⟨bq, cq, hvq, hcq, hnq, hzq, hbq, hbq2⟩ := HM.out.at hqm hn0
            have hnum := hnq c hcn
            have HVQ := Lib.hid hvq
            have HNQ := Lib.hid hnq
            have HZQ := Lib.hid hzq
            clear hvq hnq hzq
            by_cases hx : s.F q c = 0
            · have hfq2 : findF s.F m c (q + 1) = f := by rw [← hfq]; conv => rhs; rw [findF]
                                                          rw [if_pos hqm, if_pos hx]
              have HX := Lib.hid hfq2
              have hx0 : (s.F q c == 0) = true := by simp [hx]
              clear hfq hfq2 hx
              go_wp2_with fail
              go_round
              case rel => exact ⟨q + 1, by omega, by omega, by go_num, HX.out⟩
              case measure => simp [intOf]; omega
            · have hfq2 : f = q := by rw [← hfq, findF, if_pos hqm, if_neg hx]
              have hx0 : (s.F q c == 0) = false := by simp [hx]
              have HFQ := Lib.hid hfq2
              have HXN := Lib.hid hx
              clear hfq hfq2 hx
              have hqm2 : (q == m) = false := by simp; omega
              have hqm3 : ((q : Int) == (m : Int)) = false := by simp; omega
              obtain ⟨br, cr, hvr, hcr, hnr, hzr, hbr, hbr2⟩ := HM.out.at hrm hn0
              have HVR := Lib.hid hvr
              clear hvr hnr hzr
              have fz1 := HM.out.froz r
              have fz2 := HM.out.froz q
              have hi1 : (0 : Int) ≤ (r : Int) := by omega
              have hi2 : (r : Int) < (m : Int) := by omega
              have hi3 : (0 : Int) ≤ (q : Int) := by omega
              have hi4 : (q : Int) < (m : Int) := by omega
              go_wp2_with fail
              have hset := ownsRow_set (k := r) HM.out.out (.slice (some ⟨bq, 0, none⟩) n cq)
              have fc : (wr.setCell ⟨g, r, none⟩ (.slice (some ⟨bq, 0, none⟩) n cq)).cell? ⟨g, q, none⟩ = some (.slice (some ⟨bq, 0, none⟩) n cq) := by
                rw [World.ownsRow.cellAt hset q (by omega)]
                by_cases e : r = q
                · subst e; rw [List.getElem?_set_self (by have := HM.out.len; omega)]
                · rw [List.getElem?_set_ne e]; exact HVQ.out
              have ff : (wr.setCell ⟨g, r, none⟩ (.slice (some ⟨bq, 0, none⟩) n cq)).frozen? ⟨g, q, none⟩ = false := World.ownsRow.frozenAt hset q
              clear hset
              go_region
              clear fc ff hcq hcr hnum fz1 fz2 hbq hbr hbq2 hbr2
              have hm2 : MatO ((wr.setCell ⟨g, r, none⟩ (.slice (some ⟨bq, 0, none⟩) n cq)).setCell ⟨g, q, none⟩ (.slice (some ⟨br, 0, none⟩) n cr)).drew W.heap.size g m cg ((vs.set r (.slice (some ⟨bq, 0, none⟩) n cq)).set q (.slice (some ⟨br, 0, none⟩) n cr)) (toLL (swapF s.F r q) m n) := (HM.out.swapAt hrm hqm HVR.out HVQ.out).below (Below.refl _ _).drew
              have hp2 : OwnInts ((wr.setCell ⟨g, r, none⟩ (.slice (some ⟨bq, 0, none⟩) n cq)).setCell ⟨g, q, none⟩ (.slice (some ⟨br, 0, none⟩) n cr)).drew w1.heap.size (.slice ap r cp) (s.P.map Int.ofNat) := ownsRow_setCell_below (ownsRow_setCell_below HP.out hgz1 _) hgz1 _
              have hb2 : Below W.heap.size W ((wr.setCell ⟨g, r, none⟩ (.slice (some ⟨bq, 0, none⟩) n cq)).setCell ⟨g, q, none⟩ (.slice (some ⟨br, 0, none⟩) n cr)).drew := ((hbw.setCell hgz2 _).setCell hgz2 _).drew
              have hz2 : w1.heap.size ≤ ((wr.setCell ⟨g, r, none⟩ (.slice (some ⟨bq, 0, none⟩) n cq)).setCell ⟨g, q, none⟩ (.slice (some ⟨br, 0, none⟩) n cr)).drew.heap.size := by simpa using hzw
              have hlt2 : ∀ u ∈ (vs.set r (.slice (some ⟨bq, 0, none⟩) n cq)).set q (.slice (some ⟨br, 0, none⟩) n cr), ∀ z, u.ownBlock = some z → z < w1.heap.size := by
                intro u hu
                rcases List.mem_or_eq_of_mem_set hu with hu | rfl
                · rcases List.mem_or_eq_of_mem_set hu with hu | rfl
                  · exact HLT.out u hu
                  · exact HLT.out _ (List.mem_of_getElem? HVQ.out)
                · exact HLT.out _ (List.mem_of_getElem? HVR.out)
              have hN3 : redF m F (c + 1) = ⟨elimF (swapF s.F r q) r c s.d, s.P ++ [c], swapF s.F r q r c⟩ := by
                rw [HN.out, HST.out, HFQ.out, if_pos hqm]
                congr 1
                unfold swapF; rw [if_pos rfl]
              have hGb : ∀ i, i < m → ∀ k, k < n → -2121320343 ≤ swapF s.F r q i k ∧ swapF s.F r q i k ≤ 2121320343 := by
                intro i hi k hk
                unfold swapF
                split
                · exact HSB.out q hqm k hk
                · split
                  · exact HSB.out r hrm k hk
                  · exact HSB.out i hi k hk
              generalize ((wr.setCell ⟨g, r, none⟩ (.slice (some ⟨bq, 0, none⟩) n cq)).setCell ⟨g, q, none⟩ (.slice (some ⟨br, 0, none⟩) n cr)).drew = w2 at *
              generalize (vs.set r (.slice (some ⟨bq, 0, none⟩) n cq)).set q (.slice (some ⟨br, 0, none⟩) n cr) = vs2 at *
              generalize swapF s.F r q = G at *
              have HM2 := Lib.hid hm2
              have HP2 := Lib.hid hp2
              have HLT2 := Lib.hid hlt2
              have HN3 := Lib.hid hN3
              have HGB := Lib.hid hGb
              clear hm2 hp2 hlt2 hN3 hGb
              obtain ⟨br, cr, hvr, hcr, hnr, hzr, hbr, hbr2⟩ := HM2.out.at hrm hn0
              have hnrc := hnr c hcn
              clear hvr hnr hzr
              have hdb := HGB.out r hrm c hcn
              obtain ⟨hdb1, hdb2⟩ := hdb
              go_wp2_with fail
              clear hcr hnrc hbr hbr2
              go_loopw [78] (fun iv w3 => ∃ i : Nat, i ≤ m ∧ iv = .int .i64 i ∧ MatO w3 W.heap.size g m cg vs2 (toLL (fun a => if a < i then elimF G r c s.d a else G a) m n) ∧ OwnInts w3 w1.heap.size (.slice ap r cp) (s.P.map Int.ofNat) ∧ Below W.heap.size W w3 ∧ w1.heap.size ≤ w3.heap.size) (fun iv _ => m - (intOf iv).toNat)
              case atStart => exact ⟨0, Nat.zero_le _, rfl, by simpa using HM2.out, HP2.out, hb2, hz2⟩
              case round =>
                clear hb2 hz2
                obtain ⟨i, hi, rfl, hm3, hp3, hb3, hz3⟩ := hrel
                have HM3 := Lib.hid hm3
                have HP3 := Lib.hid hp3
                clear hm3 hp3
                by_cases hilt : i < m
                · by_cases hir : i = r
                  · have hir1 : ((i : Int) == (r : Int)) = true := by simp; omega
                    have hir2 : (i == r) = true := by simp; omega
                    have HIR := Lib.hid hir
                    clear hir
                    go_wp2_with fail
                    go_roundw
                    case rel =>
                      refine ⟨i + 1, by omega, by go_num, ?_, HP3.out, hb3, hz3⟩
                      have h4 := HM3.out
                      rwa [toLL_congr (H := fun a => if a < i + 1 then elimF G r c s.d a else G a) (fun a ha k hk => by
                        have e0 := HIR.out
                        by_cases e1 : a < i
                        · rw [if_pos e1, if_pos (by omega)]
                        · by_cases e2 : a = i
                          · rw [if_neg e1, if_pos (by omega)]; unfold elimF; rw [if_pos (by omega), e2, e0]
                          · rw [if_neg e1, if_neg (by omega)])] at h4
                    case measure => simp [intOf]; omega
                  · have hir1 : ((i : Int) == (r : Int)) = false := by simp; omega
                    have hir2 : (i == r) = false := by simp; omega
                    have HIR := Lib.hid hir
                    clear hir
                    obtain ⟨bi, ci, hvi, hci, hni, hzi, hbi, hbi2⟩ := HM3.out.at hilt hn0
                    have hnic : wr.cell? ⟨bi, c, none⟩ = some (.int .i64 (G i c)) := by rw [hni c hcn]; simp
                    clear hvi hni hzi
                    have hfb := HGB.out i hilt c hcn
                    obtain ⟨hfb1, hfb2⟩ := hfb
                    go_wp2_with fail
                    clear hci hnic hbi hbi2
                    have hstart : toLL (fun a => if a < i then elimF G r c s.d a else G a) m n = toLL (fun a => if a < i then elimF G r c s.d a else if a = i then (fun b => if b < 0 then elimF G r c s.d i b else G i b) else G a) m n := toLL_congr fun a ha k hk => by
                      by_cases e1 : a < i
                      · rw [if_pos e1, if_pos e1]
                      · rw [if_neg e1, if_neg e1]
                        by_cases e2 : a = i
                        · rw [if_pos e2]; simp [e2]
                        · rw [if_neg e2]
                    have HMS : Hid (MatO wr W.heap.size g m cg vs2 (toLL (fun a => if a < i then elimF G r c s.d a else if a = i then (fun b => if b < 0 then elimF G r c s.d i b else G i b) else G a) m n)) := Lib.hid (by rw [← hstart]; exact HM3.out)
                    clear hstart
                    go_loopw [92] (fun kv w4 => ∃ k : Nat, k ≤ n ∧ kv = .int .i64 k ∧ MatO w4 W.heap.size g m cg vs2 (toLL (fun a => if a < i then elimF G r c s.d a else if a = i then (fun b => if b < k then elimF G r c s.d i b else G i b) else G a) m n) ∧ OwnInts w4 w1.heap.size (.slice ap r cp) (s.P.map Int.ofNat) ∧ Below W.heap.size W w4 ∧ w1.heap.size ≤ w4.heap.size) (fun kv _ => n - (intOf kv).toNat)
                    case atStart => exact ⟨0, Nat.zero_le _, rfl, HMS.out, HP3.out, hb3, hz3⟩
                    case round =>
                      clear hb3 hz3
                      obtain ⟨k, hk, rfl, hm4, hp4, hb4, hz4⟩ := hrel
                      have HM4 := Lib.hid hm4
                      have HP4 := Lib.hid hp4
                      clear hm4 hp4
                      by_cases hkn : k < n
                      · obtain ⟨b4, c4, hv4, hc4, hn4, hf4, hb4i, hb4b⟩ := HM4.out.at hilt hn0
                        obtain ⟨br, cr, hvr, hcr, hnr, hzr, hbr, hbr2⟩ := HM4.out.at hrm hn0
                        have hnik : wr.cell? ⟨b4, k, none⟩ = some (.int .i64 (G i k)) := by rw [hn4 k hkn]; simp
                        have hnrk : wr.cell? ⟨br, k, none⟩ = some (.int .i64 (G r k)) := by
                          rw [hnr k hkn]
                          have e0 := HIR.out
                          by_cases e1 : r < i
                          · simp only [if_pos e1]; unfold elimF; rw [if_pos rfl]
                          · simp only [if_neg e1]; rw [if_neg (Ne.symm e0)]
                        have hf4k := hf4 k
                        have HV4 := Lib.hid hv4
                        have HB4 := Lib.hid (HLT2.out _ (List.mem_of_getElem? hv4) b4 rfl)
                        clear hv4 hn4 hf4 hvr hnr hzr
                        have p1 := prod_bd (HGB.out r hrm c hcn) (HGB.out i hilt k hkn)
                        have p2 := prod_bd (HGB.out i hilt c hcn) (HGB.out r hrm k hkn)
                        have q1 := IntWalk.i64_in (G r c * G i k) (by omega)
                        have q2 := IntWalk.i64_in (G i c * G r k) (by omega)
                        have q3 := IntWalk.i64_in (G r c * G i k - G i c * G r k) (by omega)
                        have q4 : IntKind.i64.wrap ((G r c * G i k - G i c * G r k).tdiv s.d) = elimF G r c s.d i k := by
                          have e0 := HIR.out
                          unfold elimF
                          rw [if_neg e0]
                          refine IntWalk.i64_in _ ?_
                          have h1 : ((G r c * G i k - G i c * G r k).tdiv s.d).natAbs ≤ (G r c * G i k - G i c * G r k).natAbs := by rw [Int.natAbs_tdiv]; exact Nat.div_le_self _ _
                          generalize (G r c * G i k - G i c * G r k).tdiv s.d = z at *
                          omega
                        have hki : (0 : Int) ≤ (k : Int) := by omega
                        have hki2 : (k : Int) < (n : Int) := by omega
                        have hii : (0 : Int) ≤ (i : Int) := by omega
                        have hii2 : (i : Int) < (m : Int) := by omega
                        clear p1 p2
                        go_wp2_with fail
                        go_region
                        go_wp2_with fail
                        go_roundw
                        case rel =>
                          refine ⟨k + 1, by omega, by go_num, ?_, ownsRow_setCell_below HP4.out HB4.out _, (hb4.setCell hb4b _).drew, by simpa using hz4⟩
                          have h4 := (HM4.out.setAt hilt HV4.out k (elimF G r c s.d i k)).below (Below.refl _ _).drew
                          rwa [toLL_congr (H := fun a => if a < i then elimF G r c s.d a else if a = i then (fun b => if b < k + 1 then elimF G r c s.d i b else G i b) else G a) (fun a ha b hb => by
                            by_cases e1 : a = i
                            · subst e1
                              simp only [if_true, Nat.lt_irrefl, if_false]
                              by_cases e2 : b = k
                              · rw [if_pos e2, if_pos (by omega), e2]
                              · rw [if_neg e2]
                                by_cases e3 : b < k
                                · rw [if_pos e3, if_pos (by omega)]
                                · rw [if_neg e3, if_neg (by omega)]
                            · simp only [if_neg e1])] at h4
                        case measure => simp [intOf]; omega
                      · obtain rfl : k = n := by omega
                        go_wp2_with fail
                        go_roundw
                        case rel =>
                          refine ⟨i + 1, by omega, by go_num, ?_, HP4.out, hb4, hz4⟩
                          have h4 := HM4.out
                          rwa [toLL_congr (H := fun a => if a < i + 1 then elimF G r c s.d a else G a) (fun a ha b hb => by
                            by_cases e1 : a < i
                            · rw [if_pos e1, if_pos (by omega)]
                            · rw [if_neg e1]
                              by_cases e2 : a = i
                              · rw [if_pos e2, if_pos hb, if_pos (by omega), e2]
                              · rw [if_neg e2, if_neg (by omega)])] at h4
                        case measure => simp [intOf]; omega
                · obtain rfl : i = m := by omega
                  have hm4 : MatO wr W.heap.size g i cg vs2 (toLL (redF i F (c + 1)).F i n) := by
                    rw [HN3.out]
                    have h4 := HM3.out
                    rwa [toLL_congr (H := elimF G r c s.d) (fun a ha k hk => by rw [if_pos ha])] at h4
                  have HM4 := Lib.hid hm4
                  have hplen : (s.P.map Int.ofNat).length < 17592186044416 := by rw [List.length_map, HRR.out]; omega
                  have HPL := Lib.hid hplen
                  have hpr : (.slice ap r cp : Value) = .slice ap (s.P.map Int.ofNat).length cp := by rw [List.length_map, HRR.out]
                  clear hm4 hplen hpr
                  go_wp2_with (at_builtin; refine app1 rfl (.tmp 124) (.tmp 126) rfl rfl HP3.out (c : Int) rfl HPL.out hz3 ?_; intro v' w5 h5 k5)
                  go_roundw
                  case rel =>
                    have hpb : ∀ z, some z = Value.ownBlock (.slice ap r cp) → w1.heap.size ≤ z := fun z hz => (HP3.out.lt z hz.symm).1
                    refine ⟨c + 1, vs2, by omega, by go_num, ?_, ?_, HLT2.out, by rw [HN3.out], ?_, Nat.le_trans hz3 k5.size⟩
                    · refine ⟨k5.ownsRow HM4.out.out fun z h1 h2 => ?_, HM4.out.rows.kept k5 fun u hu z h1 h2 => ?_⟩
                      · have := hpb z h2
                        simp [Value.ownBlock] at h1
                        omega
                      · have := hpb z h2
                        have := HLT2.out u hu z h1
                        omega
                    · rw [HN3.out]
                      show OwnInts w5 w1.heap.size v' ((s.P ++ [c]).map Int.ofNat)
                      rw [List.map_append]
                      exact h5
                    · exact hb3.trans (k5.below hb3.size fun z h1 h2 => by have := hpb z h2; omega)
                  case measure => simp [intOf]; omega
          · obtain rfl : q = m := by omega
            have hqm' : decide ((q : Int) < (q : Int)) = false := decide_eq_false (by omega)
            have hfq2 : f = q := by rw [← hfq, findF, if_neg hqm]
            have HN2 : Hid (redF q F (c + 1) = s) := Lib.hid (by rw [HN.out, HST.out, if_neg (by omega)])
            clear hfq hfq2
            go_wp2_with fail
            go_roundw
            case rel => exact ⟨c + 1, vs, by omega, by go_num, by rw [HN2.out]; exact HM.out, by rw [HN2.out]; exact HP.out, HLT.out, by rw [HN2.out], hbw, hzw⟩
            case measure => simp [intOf]; omega
      · have hrm' : decide ((r : Int) < (m : Int)) = false := decide_eq_false (by omega)
        have hrm'' : decide (r < m) = false := decide_eq_false hrm
        have HF2 := Lib.hid (HS.out (by omega))
        go_wp2_with fail
        go_ret3
        refine ⟨_, _, by rw [HF2.out]; rfl, ?_, ?_, hbw⟩
        · rw [HF2.out]; exact HM.out.own
        · rw [HF2.out]; exact ownsRow_base HP.out hbz
    · have HF2 := Lib.hid (HE.out (by omega))
      go_wp2_with fail
      go_ret3
      refine ⟨_, _, by rw [HF2.out]; rfl, ?_, ?_, hbw⟩
      · rw [HF2.out]; exact HM.out.own
      · rw [HF2.out]; exact ownsRow_base HP.out hbz
end Go.Proofs.Ytfbmpkdjhhcnpaa

namespace Go.Proofs.Ytfbmpkdjhhcnpaa
open Go.RowKit
set_option maxRecDepth 100000
set_option linter.unusedVariables false
set_option linter.unusedSimpArgs false

def smallB (x : Int) : Bool := inB x (-9000000000000000000) 9000000000000000000
theorem smallB_bd {x : Int} (h : smallB x = true) : -9000000000000000000 ≤ x ∧ x ≤ 9000000000000000000 := by
  simp [smallB, inB] at h; omega
def gcdZ (a b : Int) : Int := if smallB a && smallB b then (Nat.gcd a.natAbs b.natAbs : Int) else 0

set_option maxHeartbeats 400000 in
theorem isGreat_any (x : Int) (w : World) :
    Calls Try.prog 67 #[.int .i64 x] w fun e w' => e = .returned (.bool (!smallB x)) ∧ w = w' := by
  by_cases h1 : 9000000000000000000 < x
  · go_enter Try.func67, Try.ntmps67
    go_wp2
    go_ret
    exact ⟨by simp [smallB, inB, h1], rfl⟩
  · by_cases h2 : x < -9000000000000000000
    all_goals
      go_enter Try.func67, Try.ntmps67
      go_wp2
      go_ret
      exact ⟨by simp [smallB, inB]; omega, rfl⟩

theorem gcd_step (p q : Nat) : Nat.gcd q (p % q) = Nat.gcd p q := by
  rw [Nat.gcd_comm p q, Nat.gcd_rec q p, Nat.gcd_comm]

/-- What holds of the two numbers at each round's head. -/
def GcdRel (a b : Int) (u v : Value) : Prop := ∃ m n : Nat, u = .int .i64 m ∧ v = .int .i64 n ∧ m ≤ 9000000000000000000 ∧ n ≤ 9000000000000000000 ∧ Nat.gcd m n = Nat.gcd a.natAbs b.natAbs

theorem GcdRel.start {a b x y : Int} (ha : x.natAbs = a.natAbs) (hb : y.natAbs = b.natAbs) (h0 : 0 ≤ x) (h1 : 0 ≤ y) (h2 : x ≤ 9000000000000000000) (h3 : y ≤ 9000000000000000000) : GcdRel a b (.int .i64 x) (.int .i64 y) := by
  obtain ⟨m, rfl⟩ := Int.eq_ofNat_of_zero_le h0
  obtain ⟨n, rfl⟩ := Int.eq_ofNat_of_zero_le h1
  exact ⟨m, n, rfl, rfl, by omega, by omega, by rw [← ha, ← hb]; rfl⟩

theorem GcdRel.next {a b : Int} {m n : Nat} (h2 : m ≤ 9000000000000000000) (h3 : n ≤ 9000000000000000000) (h : Nat.gcd m n = Nat.gcd a.natAbs b.natAbs) (hn : 0 < n) : GcdRel a b (.int .i64 (n : Int)) (.int .i64 ((m : Int) % (n : Int))) :=
  ⟨n, m % n, rfl, by simp, h3, by have := Nat.mod_le m n; omega, by rw [gcd_step, h]⟩

set_option maxHeartbeats 400000 in
theorem specGcd_any (a b : Int) (w : World) :
    Calls Try.prog 52 #[.int .i64 a, .int .i64 b] w fun e w' => e = .returned (.int .i64 (gcdZ a b)) ∧ w = w' := by
  cases h1 : smallB a
  · have h1' : inB a (-9000000000000000000) 9000000000000000000 = false := h1
    go_enter Try.func52, Try.ntmps52
    go_wp2_with (go_at_call 37; refine (l1In_any _ _ _ _).mono ?_; rintro e w' ⟨rfl, rfl⟩)
    go_ret
    exact ⟨by simp [gcdZ, h1], rfl⟩
  · cases h2 : smallB b
    · have h1' : inB a (-9000000000000000000) 9000000000000000000 = true := h1
      have h2' : inB b (-9000000000000000000) 9000000000000000000 = false := h2
      go_enter Try.func52, Try.ntmps52
      go_wp2_with (go_at_call 37; refine (l1In_any _ _ _ _).mono ?_; rintro e w' ⟨rfl, rfl⟩)
      go_ret
      exact ⟨by simp [gcdZ, h1, h2], rfl⟩
    · have h1' : inB a (-9000000000000000000) 9000000000000000000 = true := h1
      have h2' : inB b (-9000000000000000000) 9000000000000000000 = true := h2
      have b1 := smallB_bd h1
      have b2 := smallB_bd h2
      obtain ⟨b1l, b1h⟩ := b1
      obtain ⟨b2l, b2h⟩ := b2
      go_enter Try.func52, Try.ntmps52
      go_wp2_with (go_at_call 37; refine (l1In_any _ _ _ _).mono ?_; rintro e w' ⟨rfl, rfl⟩)
      all_goals
        go_loop [0, 1] (fun u v => GcdRel a b u v) (fun _ v => (intOf v).toNat)
        case atStart => exact GcdRel.start (by omega) (by omega) (by omega) (by omega) (by omega) (by omega)
        case round =>
          obtain ⟨m, n, rfl, rfl, hm, hn, hg⟩ := hrel
          have HG := Lib.hid hg
          clear hg
          by_cases h0 : 0 < n
          · have hml : (m : Int) % (n : Int) < n := Int.emod_lt_of_pos _ (by omega)
            have hmp : 0 ≤ (m : Int) % (n : Int) := Int.emod_nonneg _ (by omega)
            go_wp2
            go_round
            case rel => exact GcdRel.next hm hn HG.out h0
            case measure => simp [intOf]; omega
          · obtain rfl : n = 0 := by omega
            go_wp2
            go_ret
            have := HG.out
            exact ⟨by simp [gcdZ, h1, h2, ← this], rfl⟩
set_option maxHeartbeats 800000 in
theorem implGcd_any (a b : Int) (w : World) :
    Calls Try.prog 68 #[.int .i64 a, .int .i64 b] w fun e w' => e = .returned (.int .i64 (gcdZ a b)) ∧ ∃ n, w' = w.drewN n := by
  cases h1 : smallB a
  · go_enter Try.func68, Try.ntmps68
    go_wp2_with (go_at_call 67; refine (isGreat_any _ _).mono ?_; rintro e w' ⟨rfl, rfl⟩)
    go_ret
    exact ⟨by simp [gcdZ, h1], 0, rfl⟩
  · cases h2 : smallB b
    · go_enter Try.func68, Try.ntmps68
      go_wp2_with (go_at_call 67; refine (isGreat_any _ _).mono ?_; rintro e w' ⟨rfl, rfl⟩)
      go_ret
      exact ⟨by simp [gcdZ, h1, h2], 0, rfl⟩
    · have b1 := smallB_bd h1
      have b2 := smallB_bd h2
      obtain ⟨b1l, b1h⟩ := b1
      obtain ⟨b2l, b2h⟩ := b2
      go_enter Try.func68, Try.ntmps68
      go_wp2_with (go_at_call 67; refine (isGreat_any _ _).mono ?_; rintro e w' ⟨rfl, rfl⟩)
      all_goals
        go_loopw [0, 1] (fun u v wr => GcdRel a b u v ∧ ∃ n, wr = w.drewN n) (fun _ v _ => (intOf v).toNat)
        case atStart => exact ⟨GcdRel.start (by omega) (by omega) (by omega) (by omega) (by omega) (by omega), 0, rfl⟩
        case round =>
          obtain ⟨⟨m, n, rfl, rfl, hm, hn, hg⟩, nd, rfl⟩ := hrel
          have HG := Lib.hid hg
          clear hg
          by_cases h0 : 0 < n
          · have hml : (m : Int) % (n : Int) < n := Int.emod_lt_of_pos _ (by omega)
            have hmp : 0 ≤ (m : Int) % (n : Int) := Int.emod_nonneg _ (by omega)
            go_wp2
            go_quiet (fail)
            go_wp2
            go_roundw
            case rel => exact ⟨GcdRel.next hm hn HG.out h0, nd + nq, by rw [World.drewN_drewN]⟩
            case measure => simp [intOf]; omega
          · obtain rfl : n = 0 := by omega
            go_wp2
            go_ret
            have := HG.out
            exact ⟨by simp [gcdZ, h1, h2, ← this], _, rfl⟩
end Go.Proofs.Ytfbmpkdjhhcnpaa

