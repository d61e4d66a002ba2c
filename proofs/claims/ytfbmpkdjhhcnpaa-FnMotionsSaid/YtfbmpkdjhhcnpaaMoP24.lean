/- TimesVector of the program and of the reference. -/
import Derived.Test.YtfbmpkdjhhcnpaaMoP05
import Derived.Test.YtfbmpkdjhhcnpaaMoP02
import Derived.Test.YtfbmpkdjhhcnpaaMoP23
namespace Go.Proofs.Ytfbmpkdjhhcnpaa
open Go.RowKit
set_option maxRecDepth 100000
set_option linter.unusedVariables false
set_option linter.unusedSimpArgs false

def dotTo (r v : List Int) : Nat → Int
  | 0 => 0
  | j + 1 => wrap64 (dotTo r v j + wrap64 (r[j]?.getD 0 * v[j]?.getD 0))
def dot (v r : List Int) : Int := dotTo r v r.length
def timesV (ll : List (List Int)) (v : List Int) : List Int := if isMat ll = true ∧ v.length = width ll then ll.map (dot v) else []
theorem isMat_len {ll : List (List Int)} (h : isMat ll = true) : 1 ≤ ll.length ∧ ll.length ≤ 9 := by
  simp [isMat, inB] at h; omega
theorem isMat_get {ll : List (List Int)} (h : isMat ll = true) {k : Nat} {r : List Int} (hr : ll[k]? = some r) : r.length = width ll ∧ r.length ≤ 12 ∧ 1 ≤ r.length ∧ smallRow r = true ∧ sq r ≤ 64 := by
  simp only [isMat, Bool.and_eq_true, List.all_eq_true] at h
  have h1 := h.2 r (List.mem_of_getElem? hr)
  simp [rowOk, inB] at h1
  exact ⟨h1.1, by omega, by omega, h1.2.2.1, h1.2.2.2⟩
theorem timesV_len (ll : List (List Int)) (v : List Int) : (timesV ll v).length ≤ ll.length := by unfold timesV; split <;> simp

end Go.Proofs.Ytfbmpkdjhhcnpaa

namespace Go.Proofs.Ytfbmpkdjhhcnpaa
open Go.RowKit Gr
set_option maxRecDepth 100000
set_option linter.unusedVariables false
set_option linter.unusedSimpArgs false

def rankN (M : List (List Int)) (n : Nat) : Nat := (redF M.length (entF M) n).P.length
theorem rankN_le (M : List (List Int)) (n : Nat) : rankN M n ≤ M.length := redF_len (entF M) n
theorem rankS (M : List (List Int)) (n : Nat) : (redS M.length n (entF M) n).P.length = rankN M n := by
  unfold rankN; rw [(red_sim (m := M.length) (entF M) (Nat.le_refl n)).1]
def rankM (M : List (List Int)) : Int := if isMat M = true then (rankN M (width M) : Int) else -1
theorem Bnd.mono {m n : Nat} {F : Nat → Nat → Int} {B C : Int} (h : Bnd m n F B) (hBC : B ≤ C) : Bnd m n F C := fun X hX c hc hl => Int.le_trans (h X hX c hc hl) hBC
theorem sq_rowL (n : Nat) (f : Nat → Int) : Go.Proofs.Ytfbmpkdjhhcnpaa.sq (rowL n f) = Gr.sq n f := by
  induction n with
  | zero => rfl
  | succ n ih =>
    have e : rowL (n + 1) f = rowL n f ++ [f n] := by simp [rowL, List.range_succ]
    rw [e, sq_snoc, ih]; rfl
theorem rowL_ent {M : List (List Int)} {n i : Nat} {r : List Int} (h : M[i]? = some r) (hr : r.length = n) : rowL n (entF M i) = r := by
  have hi := lt_of_getElem? h
  refine List.ext_getElem? fun k => ?_
  by_cases hk : k < n
  · rw [rowL_get hk]
    simp only [entF, h, Option.getD_some]
    rw [List.getElem?_eq_getElem (by omega)]; rfl
  · rw [List.getElem?_eq_none (by rw [rowL_length]; omega), List.getElem?_eq_none (by omega)]
theorem fit_mat {M : List (List Int)} (h : isMat M = true) : Fit M (width M) (64 ^ 9) := by
  have hl := isMat_len h
  obtain ⟨r0, hr0⟩ : ∃ r0, M[0]? = some r0 := ⟨_, List.getElem?_eq_getElem (by omega)⟩
  have h0 := isMat_get h hr0
  refine ⟨fun r hr => ?_, by omega, by omega, by omega, ?_, by decide⟩
  · obtain ⟨k, hk⟩ := List.getElem?_of_mem hr
    exact (isMat_get h hk).1
  · refine Bnd.mono (Bnd.byRowsM (B := 64) (by decide) fun i hi => ?_) (pow_mono (by decide) hl.2)
    have h1 := isMat_get h (List.getElem?_eq_getElem hi)
    rw [← sq_rowL, rowL_ent (List.getElem?_eq_getElem hi) h1.1]
    exact h1.2.2.2.2

end Go.Proofs.Ytfbmpkdjhhcnpaa

namespace Go.Proofs.Ytfbmpkdjhhcnpaa
open Go.RowKit Gr
set_option maxRecDepth 100000
set_option linter.unusedVariables false
set_option linter.unusedSimpArgs false

/-- the row of each column, or -1 -/
def rI (P : List Nat) (r k : Nat) : Int := if k ∈ P.take r then ((P.take r).idxOf k : Int) else -1
theorem rI_zero (P : List Nat) (k : Nat) : rI P 0 k = -1 := by unfold rI; rw [List.take_zero, if_neg (by simp)]
theorem rI_succ {P : List Nat} (hP : P.Nodup) {r : Nat} (hr : r < P.length) (k : Nat) : rI P (r + 1) k = if k = P[r] then (r : Int) else rI P r k := by
  have e : P.take (r + 1) = P.take r ++ [P[r]] := List.take_succ_eq_append_getElem hr
  have hn : P[r] ∉ P.take r := by
    intro hm
    obtain ⟨j, hj, he⟩ := List.mem_take_iff_getElem.1 hm
    have := (List.getElem_inj (h₀ := by omega) (h₁ := hr) hP).1 he
    omega
  unfold rI
  rw [e]
  by_cases h1 : k = P[r]
  · rw [if_pos h1, h1, if_pos (List.mem_append_right _ (List.mem_singleton.2 rfl)), List.idxOf_append, if_neg hn]
    simp [List.length_take]; omega
  · rw [if_neg h1]
    by_cases h2 : k ∈ P.take r
    · rw [if_pos (List.mem_append_left _ h2), if_pos h2, List.idxOf_append, if_pos h2]
    · rw [if_neg (fun hm => by rcases List.mem_append.1 hm with hm | hm; exact h2 hm; exact h1 (List.mem_singleton.1 hm)), if_neg h2]
theorem rI_all {P : List Nat} (k : Nat) : rI P P.length k = if k ∈ P then (P.idxOf k : Int) else -1 := by unfold rI; rw [List.take_length]
def freeTo (P : List Nat) (c : Nat) : List Nat := (List.range c).filter fun k => !P.contains k
theorem freeTo_succ (P : List Nat) (c : Nat) : freeTo P (c + 1) = if c ∈ P then freeTo P c else freeTo P c ++ [c] := by
  unfold freeTo
  rw [List.range_succ, List.filter_append]
  by_cases h : c ∈ P
  · rw [if_pos h]; simp [h]
  · rw [if_neg h]; simp [h]
theorem freeTo_len (P : List Nat) (c : Nat) : (freeTo P c).length ≤ c := by
  have := List.length_filter_le (fun k => !P.contains k) (List.range c)
  simpa [freeTo] using this
def nullTo (M : List (List Int)) (n c : Nat) : List (List Int) := (freeTo (redF M.length (entF M) n).P c).map fun k => rowL n (primF n (vI (redF M.length (entF M) n) k))
def nullL (M : List (List Int)) (n : Nat) : List (List Int) := nullTo M n n

theorem ownInts_made {w1 : World} {base g n : Nat} (h : w1.ownsRow base 3 1 (.slice (some ⟨g, 0, none⟩) n n) n (madeCells (Value.cells (.int .i64 0)) (n * 1)).toList) : OwnInts w1 base (.slice (some ⟨g, 0, none⟩) n n) (rowL n fun _ => 0) := by
  unfold OwnInts
  rw [rowL_length]
  have e : (rowL n fun _ => 0).map (Value.int .i64) = (madeCells (Value.cells (.int .i64 0)) (n * 1)).toList := by
    rw [Nat.mul_one]
    simp only [rowL, Value.cells, toList_madeCells_one, List.map_map]
    exact List.eq_replicate_iff.2 ⟨by simp, fun b hb => by obtain ⟨x, _, rfl⟩ := List.mem_map.1 hb; rfl⟩
  rw [e]; exact h
theorem OwnInts.setRow {W : World} {base b c n : Nat} {f : Nat → Int} (h : OwnInts W base (.slice (some ⟨b, 0, none⟩) n c) (rowL n f)) (k : Nat) (x : Int) : OwnInts (W.setCell ⟨b, k, none⟩ (.int .i64 x)) base (.slice (some ⟨b, 0, none⟩) n c) (rowL n fun q => if q = k then x else f q) := by
  have h1 : OwnInts W base (.slice (some ⟨b, 0, none⟩) (rowL n f).length c) (rowL n f) := by rw [rowL_length]; exact h
  have h2 := OwnInts.setAt (j := k) h1 x
  rw [rowL_set, rowL_length] at h2
  exact h2
theorem OwnInts.rowCell {W : World} {base b c n : Nat} {f : Nat → Int} (h : OwnInts W base (.slice (some ⟨b, 0, none⟩) n c) (rowL n f)) {k : Nat} (hk : k < n) : W.cell? ⟨b, k, none⟩ = some (.int .i64 (f k)) := by
  have h1 : OwnInts W base (.slice (some ⟨b, 0, none⟩) (rowL n f).length c) (rowL n f) := by rw [rowL_length]; exact h
  exact h1.cellAt (rowL_get hk)
theorem OwnInts.rowFroz {W : World} {base b c n : Nat} {f : Nat → Int} (h : OwnInts W base (.slice (some ⟨b, 0, none⟩) n c) (rowL n f)) (k : Nat) : W.frozen? ⟨b, k, none⟩ = false := by
  have h1 : OwnInts W base (.slice (some ⟨b, 0, none⟩) (rowL n f).length c) (rowL n f) := by rw [rowL_length]; exact h
  exact h1.frozAt k
theorem rowL_congr' {n : Nat} {f h : Nat → Int} {W : World} {base : Nat} {v : Value} (e : ∀ k, k < n → f k = h k) (ho : OwnInts W base v (rowL n f)) : OwnInts W base v (rowL n h) := by rwa [rowL_congr e] at ho

theorem ownsRow_base' {W : World} {base base' : Nat} {v : Value} {ll : List (List Int)} (h : OwnIntss W base v ll) (hb : base' ≤ base) : OwnIntss W base' v ll := by
  obtain ⟨vs, h1, h2⟩ := h
  exact ⟨vs, ownsRow_base h1 hb, h2.mono hb⟩

set_option maxHeartbeats 16000000 in
theorem nullspace_fit (M : List (List Int)) (n m : Nat) (B : Int) (hf : Fit M n B) (W : World) (a : Option Addr) (cap : Nat) (h : IntssAt W a m M) :
    Calls Try.prog 31 #[.slice a m cap, .int .i64 n] W (RetIntss W (nullL M n)) := by
  obtain rfl := h.1
  obtain ⟨i0, hi, hz0, hz1, hz2⟩ := info_parts infoInt
  have H := Lib.hid h
  have HFIT := Lib.hid hf
  have hn0 := hf.n0
  have hn64 := hf.n64
  have hm64 := hf.m64
  have HSO := Lib.hid (SOk_of hf.bnd hf.small (Nat.le_refl n)).1
  have HND := Lib.hid (redF_P (m := M.length) (entF M) n)
  have HPL := Lib.hid (redF_len (m := M.length) (entF M) n)
  have HNL : Hid (∀ c, nullTo M n c = (freeTo (redF M.length (entF M) n).P c).map fun k => rowL n (primF n (vI (redF M.length (entF M) n) k))) := Lib.hid fun c => rfl
  have HNL2 : Hid (nullL M n = nullTo M n n) := Lib.hid rfl
  clear h hf
  go_enter Try.func31, Try.ntmps31
  go_wp2_with fail
  refine (reduced_fit M n B HFIT.out W a cap H.out).mono ?_
  rintro e w1 ⟨va, vp, rfl, h1, h2, hb1⟩
  obtain ⟨aa, ca, rfl, hia⟩ := h1.form
  obtain ⟨ap, cp, rfl, hip⟩ := h2.form
  rw [toLL_length] at hia
  have hPl : ((redF M.length (entF M) n).P.map Int.ofNat).length = (redF M.length (entF M) n).P.length := by simp
  rw [hPl] at hip
  have HIA := Lib.hid hia
  have HIP := Lib.hid hip
  clear h1 h2 hia hip
  simp only [toLL_length]
  rw [hPl]
  clear hPl
  generalize redF M.length (entF M) n = s at *
  generalize M.length = m at *
  have hso := HSO.out
  obtain ⟨hd0, hd1, hsb⟩ := hso
  have HSB := Lib.hid hsb
  clear hsb hd0
  have hpl := HPL.out
  have hbz1 := hb1.size
  go_wp2_with (at_make; refine wpList_make_full _ rfl _ _ _ rfl w1.heap.size 3 i0 (.int .i64 0) 1 Try.underlying35 hi hz0 hz1 .i64 .i64 _ _ n rfl rfl rfl rfl (by rw [hz2]; omega) (by unfold maxLen; omega) (Nat.le_refl _) ?_; intro w2 hown hgrow)
  have hb2 : Below w1.heap.size w1 w2 := Below.of_grown_none hgrow
  have ho2 := ownInts_made hown
  clear hown hgrow
  go_loopw [27] (fun cv wr => ∃ c : Nat, c ≤ n ∧ cv = .int .i64 c ∧ OwnInts wr w1.heap.size (.slice (some ⟨w1.heap.size, 0, none⟩) n n) (rowL n fun k => if k < c then -1 else 0) ∧ Below w1.heap.size w1 wr) (fun cv _ => n - (intOf cv).toNat)
  case atStart => exact ⟨0, Nat.zero_le _, rfl, rowL_congr' (fun k hk => by rw [if_neg (by omega)]) ho2, hb2⟩
  case round =>
    clear hb2 ho2
    obtain ⟨c, hc, rfl, ho, hb⟩ := hrel
    have HO := Lib.hid ho
    clear ho
    by_cases hlt : c < n
    · have e1 := HO.out.rowCell hlt
      have e2 := HO.out.rowFroz c
      go_wp2_with fail
      go_roundw
      case rel =>
        refine ⟨c + 1, by omega, by go_num, rowL_congr' (fun k hk => ?_) (HO.out.setRow c (-1)), hb.setCell (Nat.le_refl _) _⟩
        by_cases e : k = c
        · rw [if_pos e, if_pos (by omega)]
        · rw [if_neg e]
          by_cases e3 : k < c
          · rw [if_pos e3, if_pos (by omega)]
          · rw [if_neg e3, if_neg (by omega)]
      case measure => simp [intOf]; omega
    · obtain rfl : c = n := by omega
      have HO3 : Hid (OwnInts wr w1.heap.size (.slice (some ⟨w1.heap.size, 0, none⟩) c c) (rowL c (rI s.P 0))) := Lib.hid (rowL_congr' (fun k hk => by rw [if_pos hk, rI_zero]) HO.out)
      clear HO
      go_wp2_with fail
      go_loopw [36] (fun iv wr => ∃ r : Nat, r ≤ s.P.length ∧ iv = .int .i64 r ∧ OwnInts wr w1.heap.size (.slice (some ⟨w1.heap.size, 0, none⟩) c c) (rowL c (rI s.P r)) ∧ Below w1.heap.size w1 wr) (fun iv _ => s.P.length - (intOf iv).toNat)
      case atStart => exact ⟨0, Nat.zero_le _, rfl, HO3.out, hb⟩
      case round =>
        clear hb
        obtain ⟨r, hr, rfl, ho, hb⟩ := hrel
        have HO := Lib.hid ho
        clear ho
        have hgz : w1.heap.size < wr.heap.size := (HO.out.lt _ rfl).2
        by_cases hlt2 : r < s.P.length
        · obtain ⟨bp, op, x, rfl, hbp, hx, hcp⟩ := HIP.out.2 r hlt2
          have hx2 : x = (s.P[r] : Int) := by simpa [hlt2] using hx.symm
          have hpn : s.P[r] < c := HND.out.1 _ (List.getElem_mem hlt2)
          have HSU := Lib.hid (fun k => rI_succ HND.out.2 hlt2 k)
          subst hx2
          have hcp2 := (hb.cell (p := ⟨bp, op + r, none⟩) hbp).trans hcp
          generalize s.P[r] = p at *
          have e1 := HO.out.rowCell hpn
          have e2 := HO.out.rowFroz p
          have hp1 : (0 : Int) ≤ (p : Int) := by omega
          have hp2 : (p : Int) < (c : Int) := by omega
          clear hx hcp
          go_wp2_with fail
          go_roundw
          case rel => exact ⟨r + 1, by omega, by go_num, rowL_congr' (fun k hk => (HSU.out k).symm) (HO.out.setRow p (r : Int)), hb.setCell (Nat.le_refl _) _⟩
          case measure => simp [intOf]; omega
        · obtain rfl : r = s.P.length := by omega
          have HRW : Hid (OwnInts wr w1.heap.size (.slice (some ⟨w1.heap.size, 0, none⟩) c c) (rowL c fun k => if k ∈ s.P then (s.P.idxOf k : Int) else -1)) := Lib.hid (rowL_congr' (fun k hk => rI_all k) HO.out)
          clear HO HO3
          obtain ⟨wA, hwA⟩ : ∃ wA, wA = wr := ⟨_, rfl⟩
          subst hwA
          have hbA : Below W.heap.size W wA := hb1.trans (hb.mono hbz1)
          have hA1 := hb.size
          have hb0 : Below wA.heap.size wA (wA.alloc (.cells #[] 35)) := (Below.refl _ _).alloc (Nat.le_refl _) _
          have h0 : OwnIntss (wA.alloc (.cells #[] 35)) wA.heap.size (.slice (some ⟨wA.heap.size, 0, none⟩) 0 0) [] := ⟨[], World.ownsRow_made wA #[] 0 (Nat.le_refl _) (Nat.zero_le _) rfl, IRows.nil _ _⟩
          go_wp2_with fail
          go_loopw [12, 48] (fun ov cv w3 => ∃ q : Nat, q ≤ c ∧ cv = .int .i64 q ∧ OwnIntss w3 wA.heap.size ov (nullTo M c q) ∧ Below wA.heap.size wA w3) (fun _ cv _ => c - (intOf cv).toNat)
          case atStart => exact ⟨0, Nat.zero_le _, rfl, by rw [HNL.out]; exact h0, hb0⟩
          case round =>
            clear h0 hb0
            obtain ⟨q, hq, rfl, ho, hb3⟩ := hrel
            have HO := Lib.hid ho
            obtain ⟨vs, hvs, hrs⟩ := ho
            have HV := Lib.hid hvs
            have HVR := Lib.hid hrs
            clear hvs hrs
            have hb3z := hb3.size
            by_cases hqn : q < c
            · have er := (hb3.cell (p := ⟨w1.heap.size, q, none⟩) (show w1.heap.size < wA.heap.size by omega)).trans (HRW.out.rowCell hqn)
              by_cases hqP : q ∈ s.P
              · rw [if_pos hqP] at er
                have HX : Hid (nullTo M c (q + 1) = nullTo M c q) := Lib.hid (by rw [HNL.out, HNL.out, freeTo_succ, if_pos hqP])
                clear hqP
                have hid0 : (0 : Int) ≤ (s.P.idxOf q : Int) := by omega
                go_wp2_with fail
                go_roundw
                case rel => exact ⟨q + 1, by omega, by go_num, by rw [HX.out]; exact HO.out, hb3⟩
                case measure => simp [intOf]; omega
              · rw [if_neg hqP] at er
                have HX : Hid (nullTo M c (q + 1) = nullTo M c q ++ [rowL c (primF c (vI s q))]) := Lib.hid (by rw [HNL.out, HNL.out, freeTo_succ, if_neg hqP, List.map_append]; rfl)
                have HQP := Lib.hid hqP
                clear hqP
                have hq0 : (0 : Int) ≤ (q : Int) := by omega
                have hq1 : (q : Int) < (c : Int) := by omega
                go_wp2_with (at_make; refine wpList_make_full _ rfl _ _ _ rfl wr.heap.size 3 i0 (.int .i64 0) 1 Try.underlying35 hi hz0 hz1 .i64 .i64 _ _ c rfl rfl rfl rfl (by rw [hz2]; omega) (by unfold maxLen; omega) (Nat.le_refl _) ?_; intro w4 hown hgrow; have hb4 : Below wr.heap.size wr w4 := Below.of_grown_none hgrow; have ho4 := ownInts_made hown; have hs4 : wr.heap.size < w4.heap.size := (ho4.lt _ rfl).2; have e4 := ho4.rowCell hqn; have f4 := ho4.rowFroz q; have HO4 := Lib.hid ho4; clear hown hgrow ho4 er)
                clear e4 f4
                have hb5 : Below wr.heap.size wr (w4.setCell ⟨wr.heap.size, q, none⟩ (.int .i64 s.d)) := hb4.setCell (Nat.le_refl _) _
                have ho5 := Lib.hid (HO4.out.setRow q s.d)
                have HST : Hid (OwnInts (w4.setCell ⟨wr.heap.size, q, none⟩ (.int .i64 s.d)) wr.heap.size (.slice (some ⟨wr.heap.size, 0, none⟩) c c) (rowL c fun j => if j = q then s.d else if j ∈ s.P ∧ j < 0 then -s.F (s.P.idxOf j) q else 0)) := Lib.hid (rowL_congr' (fun j hj => by
                  by_cases e : j = q
                  · rw [if_pos e, if_pos e]
                  · rw [if_neg e, if_neg e, if_neg (fun h => by omega)]) ho5.out)
                clear ho5 HO4
                obtain ⟨wB, hwB⟩ : ∃ wB, wB = wr := ⟨_, rfl⟩
                subst hwB
                go_loopw [63] (fun kv w5 => ∃ k : Nat, k ≤ c ∧ kv = .int .i64 k ∧ OwnInts w5 wB.heap.size (.slice (some ⟨wB.heap.size, 0, none⟩) c c) (rowL c fun j => if j = q then s.d else if j ∈ s.P ∧ j < k then -s.F (s.P.idxOf j) q else 0) ∧ Below wB.heap.size wB w5) (fun kv _ => c - (intOf kv).toNat)
                case atStart => exact ⟨0, Nat.zero_le _, rfl, HST.out, hb5⟩
                case round =>
                  clear hb5
                  obtain ⟨k, hk, rfl, hov, hbv⟩ := hrel
                  have HOV := Lib.hid hov
                  clear hov
                  have hbvz := hbv.size
                  by_cases hkn : k < c
                  · have er := ((hbv.cell (p := ⟨w1.heap.size, k, none⟩) (show w1.heap.size < wB.heap.size by omega)).trans (hb3.cell (p := ⟨w1.heap.size, k, none⟩) (show w1.heap.size < wA.heap.size by omega))).trans (HRW.out.rowCell hkn)
                    by_cases hkP : k ∈ s.P
                    · rw [if_pos hkP] at er
                      have hil : s.P.idxOf k < s.P.length := List.idxOf_lt_length_of_mem hkP
                      have hkq : k ≠ q := fun e => HQP.out (e ▸ hkP)
                      have HKP := Lib.hid hkP
                      have HKQ := Lib.hid hkq
                      clear hkP hkq
                      generalize hix : s.P.idxOf k = i at *
                      have HIX := Lib.hid hix
                      clear hix
                      obtain ⟨ba, oa, ar, cr, r, rfl, hba, hxa, hca, hia⟩ := HIA.out.2 i (by omega)
                      have hr : r = rowL c (s.F i) := by rw [toLL_get (by omega)] at hxa; exact (Option.some.inj hxa).symm
                      subst hr
                      obtain ⟨b6, o6, x6, rfl, hb6, hx6, hc6⟩ := hia.2 q (by rw [rowL_length]; exact hqn)
                      have hx7 : x6 = s.F i q := by rw [rowL_get hqn] at hx6; exact (Option.some.inj hx6).symm
                      subst hx7
                      have hch : ∀ b o, b < w1.heap.size → wr.cell? ⟨b, o, none⟩ = w1.cell? ⟨b, o, none⟩ := fun b o hb' => ((hbv.cell (p := ⟨b, o, none⟩) (show b < wB.heap.size by omega)).trans (hb3.cell (p := ⟨b, o, none⟩) (show b < wA.heap.size by omega))).trans (hb.cell (p := ⟨b, o, none⟩) hb')
                      have g1 := (hch ba (oa + i) hba).trans hca
                      have g2 := (hch b6 (o6 + q) hb6).trans hc6
                      rw [rowL_length] at g1
                      have hbd := HSB.out i (by omega) q hqn
                      have q1 := IntWalk.i64_in (-s.F i q) (by omega)
                      have e1 := HOV.out.rowCell hkn
                      have e2 := HOV.out.rowFroz k
                      have hi0 : (0 : Int) ≤ (i : Int) := by omega
                      have hi1 : (i : Int) < (m : Int) := by omega
                      have hk0 : (0 : Int) ≤ (k : Int) := by omega
                      have hk1 : (k : Int) < (c : Int) := by omega
                      clear hch hxa hca hia hx6 hc6 hbd
                      go_wp2_with fail
                      go_roundw
                      case rel =>
                        refine ⟨k + 1, by omega, by go_num, rowL_congr' (fun j hj => ?_) (HOV.out.setRow k (-s.F i q)), hbv.setCell (Nat.le_refl _) _⟩
                        by_cases e3 : j = k
                        · subst e3
                          rw [if_pos rfl, if_neg HKQ.out, if_pos ⟨HKP.out, by omega⟩, HIX.out]
                        · rw [if_neg e3]
                          by_cases e4 : j = q
                          · rw [if_pos e4, if_pos e4]
                          · rw [if_neg e4, if_neg e4]
                            by_cases e5 : j ∈ s.P ∧ j < k
                            · rw [if_pos e5, if_pos ⟨e5.1, by omega⟩]
                            · rw [if_neg e5, if_neg (fun h => e5 ⟨h.1, by omega⟩)]
                      case measure => simp [intOf]; omega
                    · rw [if_neg hkP] at er
                      have HKP := Lib.hid hkP
                      clear hkP
                      go_wp2_with fail
                      go_roundw
                      case rel =>
                        refine ⟨k + 1, by omega, by go_num, rowL_congr' (fun j hj => ?_) HOV.out, hbv⟩
                        by_cases e4 : j = q
                        · rw [if_pos e4, if_pos e4]
                        · rw [if_neg e4, if_neg e4]
                          by_cases e5 : j ∈ s.P ∧ j < k
                          · rw [if_pos e5, if_pos ⟨e5.1, by omega⟩]
                          · rw [if_neg e5, if_neg (fun h => by
                              by_cases e6 : j = k
                              · exact HKP.out (e6 ▸ h.1)
                              · exact e5 ⟨h.1, by omega⟩)]
                      case measure => simp [intOf]; omega
                  · obtain rfl : k = c := by omega
                    have HVI : Hid (OwnInts wr wB.heap.size (.slice (some ⟨wB.heap.size, 0, none⟩) k k) (rowL k (vI s q))) := Lib.hid (rowL_congr' (fun j hj => by
                      unfold vI
                      by_cases e4 : j = q
                      · rw [if_pos e4, if_pos e4]
                      · rw [if_neg e4, if_neg e4]
                        by_cases e5 : j ∈ s.P
                        · rw [if_pos ⟨e5, hj⟩, if_pos e5]
                        · rw [if_neg (fun h => e5 h.1), if_neg e5]) HOV.out)
                    clear HOV
                    obtain ⟨av, cv, hve, hvi⟩ := HVI.out.form
                    rw [rowL_length] at hve hvi
                    simp only [Value.slice.injEq, true_and] at hve
                    obtain ⟨rfl, rfl⟩ := hve
                    have HVA := Lib.hid hvi
                    clear hvi
                    go_wp2_with fail
                    refine (implPrim_any _ _ _ _ _ HVA.out (by omega)).mono ?_
                    rintro e w7 ⟨u, rfl, hu, b7⟩
                    rw [prim_rowL (fun j hj => by
                      have h1 : -2121320343 ≤ vI s q j ∧ vI s q j ≤ 2121320343 := by
                        unfold vI
                        split
                        · omega
                        · split
                          · rename_i h2
                            have := HSB.out (s.P.idxOf j) (by have := List.idxOf_lt_length_of_mem h2; omega) q hqn
                            omega
                          · omega
                      omega)] at hu
                    obtain ⟨au, cu, rfl, hui⟩ := hu.form
                    clear hui
                    have HU := Lib.hid hu
                    have HB7 := Lib.hid (hbv.step b7)
                    have hz7 := b7.size
                    clear hu b7
                    have hTL : (nullTo M k q).length < 1099511627776 := by rw [HNL.out, List.length_map]; have := freeTo_len s.P q; omega
                    rw [rowL_length] at HU ⊢
                    go_wp2_with (at_builtin; refine appRow rfl (.tmp 86) (.tmp 89) rfl rfl (ownsRow_base HU.out (by omega)) HB7.out HV.out HVR.out (fun z hz => by have := (HU.out.lt z hz).1; omega) rfl hTL (by omega) ?_; intro v' w8 h8 k8)
                    go_roundw
                    case rel =>
                      refine ⟨q + 1, by omega, by go_num, by rw [HX.out]; exact h8, hb3.trans ?_⟩
                      have hvs := HV.out
                      exact (HB7.out.mono hb3z).trans (k8.below (by omega) fun z h1 h2 => by
                        have := (World.ownsRow.lt hvs z h2.symm).1
                        omega)
                    case measure => simp [intOf]; omega
            · obtain rfl : q = c := by omega
              go_wp2_with fail
              go_ret
              exact ⟨_, rfl, by rw [HNL2.out]; exact ownsRow_base' HO.out (by omega), hbA.trans (hb3.mono (by omega))⟩
end Go.Proofs.Ytfbmpkdjhhcnpaa

