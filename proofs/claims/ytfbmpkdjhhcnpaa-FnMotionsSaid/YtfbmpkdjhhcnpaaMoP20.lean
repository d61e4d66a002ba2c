/- The program's elimination without fractions: what 'reduced' hands back. Conditions: a matrix of at most 64 rows and columns; the numbers that arise are small (SOk), which Eli proves. -/
import Derived.Test.YtfbmpkdjhhcnpaaMoP04
import Derived.Test.YtfbmpkdjhhcnpaaMoP18
import Derived.BigRegion
namespace Go.Proofs.Ytfbmpkdjhhcnpaa
open Go.RowKit Gr
set_option maxRecDepth 100000
set_option linter.unusedVariables false
set_option linter.unusedSimpArgs false

def rowL (n : Nat) (f : Nat → Int) : List Int := (List.range n).map f
def toLL (F : Nat → Nat → Int) (m n : Nat) : List (List Int) := (List.range m).map fun i => rowL n (F i)
def entF (M : List (List Int)) : Nat → Nat → Int := fun i k => (M[i]?.getD [])[k]?.getD 0
theorem rowL_length (n : Nat) (f : Nat → Int) : (rowL n f).length = n := by simp [rowL]
theorem rowL_get {n k : Nat} {f : Nat → Int} (h : k < n) : (rowL n f)[k]? = some (f k) := by simp [rowL, h]
theorem toLL_length (F : Nat → Nat → Int) (m n : Nat) : (toLL F m n).length = m := by simp [toLL]
theorem toLL_get {F : Nat → Nat → Int} {m n i : Nat} (h : i < m) : (toLL F m n)[i]? = some (rowL n (F i)) := by simp [toLL, h]
theorem rowL_congr {n : Nat} {f h : Nat → Int} (e : ∀ k, k < n → f k = h k) : rowL n f = rowL n h := List.map_congr_left fun k hk => e k (List.mem_range.1 hk)
theorem toLL_congr {F H : Nat → Nat → Int} {m n : Nat} (e : ∀ i, i < m → ∀ k, k < n → F i k = H i k) : toLL F m n = toLL H m n := List.map_congr_left fun i hi => rowL_congr (e i (List.mem_range.1 hi))
theorem rowL_set {n k : Nat} {f : Nat → Int} {x : Int} : (rowL n f).set k x = rowL n fun b => if b = k then x else f b := by
  refine List.ext_getElem (by simp [rowL]) fun j h1 h2 => ?_
  simp only [rowL, List.getElem_set, List.getElem_map, List.getElem_range]
  by_cases e : k = j
  · rw [if_pos e, if_pos e.symm]
  · rw [if_neg e, if_neg (Ne.symm e)]
theorem toLL_set {F : Nat → Nat → Int} {m n i : Nat} {f : Nat → Int} : (toLL F m n).set i (rowL n f) = toLL (fun a => if a = i then f else F a) m n := by
  refine List.ext_getElem (by simp [toLL]) fun j h1 h2 => ?_
  simp only [toLL, List.getElem_set, List.getElem_map, List.getElem_range]
  by_cases e : i = j
  · rw [if_pos e, if_pos e.symm]
  · rw [if_neg e, if_neg (Ne.symm e)]
theorem toLL_ent {M : List (List Int)} {n : Nat} (h : ∀ r ∈ M, r.length = n) : toLL (entF M) M.length n = M := by
  refine List.ext_getElem (by simp [toLL]) fun i h1 h2 => ?_
  have hr := h M[i] (List.getElem_mem h2)
  refine List.ext_getElem (by simp [toLL, rowL, hr]) fun k h3 h4 => ?_
  simp [toLL, rowL, entF, h2, h4]

theorem MatO.at {W : World} {base g m n cap : Nat} {vs : List Value} {F : Nat → Nat → Int} (h : MatO W base g m cap vs (toLL F m n)) {i : Nat} (hi : i < m) (hn : 0 < n) :
    ∃ b c, vs[i]? = some (.slice (some ⟨b, 0, none⟩) n c) ∧ W.cell? ⟨g, i, none⟩ = some (.slice (some ⟨b, 0, none⟩) n c) ∧ (∀ k, k < n → W.cell? ⟨b, k, none⟩ = some (.int .i64 (F i k))) ∧ (∀ k, W.frozen? ⟨b, k, none⟩ = false) ∧ b < W.heap.size ∧ base ≤ b := by
  obtain ⟨b, c, h1, h2, h3, h4, h5⟩ := h.row (toLL_get (n := n) hi) (by rw [rowL_length]; exact hn)
  rw [rowL_length] at h1 h2
  exact ⟨b, c, h1, h2, fun k hk => h3.cellAt (rowL_get hk), fun k => h3.frozAt k, h4, h5⟩
theorem MatO.setAt {W : World} {base g m n cap : Nat} {vs : List Value} {F : Nat → Nat → Int} (h : MatO W base g m cap vs (toLL F m n)) {i b c : Nat} (hi : i < m) (hv : vs[i]? = some (.slice (some ⟨b, 0, none⟩) n c)) (k : Nat) (x : Int) :
    MatO (W.setCell ⟨b, k, none⟩ (.int .i64 x)) base g m cap vs (toLL (fun a => if a = i then (fun q => if q = k then x else F i q) else F a) m n) := by
  have h2 := h.setIn (r := rowL n (F i)) (by rw [rowL_length]; exact hv) (toLL_get hi) k x
  rwa [rowL_set, toLL_set] at h2
theorem MatO.swapAt {W : World} {base g m n cap : Nat} {vs : List Value} {F : Nat → Nat → Int} (h : MatO W base g m cap vs (toLL F m n)) {r p : Nat} {u v : Value} (hr : r < m) (hp : p < m) (hu : vs[r]? = some u) (hv : vs[p]? = some v) :
    MatO ((W.setCell ⟨g, r, none⟩ v).setCell ⟨g, p, none⟩ u) base g m cap ((vs.set r v).set p u) (toLL (swapF F r p) m n) := by
  have h2 := h.swap hu hv (toLL_get hr) (toLL_get hp)
  rw [toLL_set, toLL_set] at h2
  have e : toLL (fun a => if a = p then F r else if a = r then F p else F a) m n = toLL (swapF F r p) m n := toLL_congr fun i _ k _ => by
    unfold swapF
    by_cases e1 : i = p
    · by_cases e2 : i = r
      · rw [if_pos e1, if_pos e2, ← e1, e2]
      · rw [if_pos e1, if_neg e2, if_pos e1]
    · by_cases e2 : i = r
      · rw [if_neg e1, if_pos e2, if_pos e2]
      · rw [if_neg e1, if_neg e2, if_neg e2, if_neg e1]
  rwa [e] at h2

set_option maxHeartbeats 4000000 in
theorem copyLists_any (a : Option Addr) (n cap : Nat) (ll : List (List Int)) (W : World) (h : IntssAt W a n ll) (hn : n ≤ 1048576) (hr : ∀ r ∈ ll, r.length ≤ 1048576) :
    Calls Try.prog 66 #[.slice a n cap] W (RetIntss W ll) := by
  have HL := Lib.hid h.1
  have HC := Lib.hid h.2
  have HR := Lib.hid hr
  clear h hr
  go_enter Try.func66, Try.ntmps66
  go_wp2_with fail
  have hb0 : Below W.heap.size W (W.alloc (.cells #[] 35)) := (Below.refl _ _).alloc (Nat.le_refl _) _
  have h0 : OwnIntss (W.alloc (.cells #[] 35)) W.heap.size (.slice (some ⟨W.heap.size, 0, none⟩) 0 0) [] := ⟨[], World.ownsRow_made W #[] 0 (Nat.le_refl _) (Nat.zero_le _) rfl, IRows.nil _ _⟩
  go_loopw [3, 9] (fun v i wr => ∃ k : Nat, k ≤ n ∧ i = .int .i64 k ∧ OwnIntss wr W.heap.size v (ll.take k) ∧ Below W.heap.size W wr) (fun _ i _ => n - (intOf i).toNat)
  case atStart => exact ⟨0, Nat.zero_le _, rfl, by simpa using h0, hb0⟩
  case round =>
    clear h0 hb0
    obtain ⟨k, hk, rfl, ho, hb⟩ := hrel
    have HO := Lib.hid ho
    obtain ⟨vs, hvs, hrs⟩ := ho
    have HV := Lib.hid hvs
    have HVR := Lib.hid hrs
    clear hvs hrs
    by_cases hlt : k < n
    · obtain ⟨b, off, ar, cr, r, rfl, hbl, hx, hcell, hi⟩ := HC.out k hlt
      have hcw : wr.cell? ⟨b, off + k, none⟩ = some (.slice ar r.length cr) := (hb.cell (p := ⟨b, off + k, none⟩) hbl).trans hcell
      have HX := Lib.hid hx
      have HI := Lib.hid (hi.below hb)
      have hrl := HR.out r (List.mem_of_getElem? hx)
      clear hx hi hcell
      go_wp2_with fail
      refine (copyInts_any _ _ _ _ _ HI.out (by omega)).mono ?_
      rintro e w2 ⟨u, rfl, hu, b2⟩
      obtain ⟨au, cu, rfl, hui⟩ := hu.form
      clear hui
      have HU := Lib.hid hu
      have HB2 := Lib.hid b2
      clear hu b2
      have hz := HB2.out.size
      have hbz := hb.size
      have htl : (ll.take k).length ≤ k := List.length_take_le _ _
      go_wp2_with (at_builtin; refine appRow rfl (.tmp 13) (.tmp 16) rfl rfl (ownsRow_base HU.out hbz) HB2.out HV.out HVR.out (fun q hq => (HU.out.lt q hq).1) rfl (by omega) (by omega) ?_; intro v' w3 h3 k3)
      go_roundw
      case rel =>
        refine ⟨k + 1, by omega, by go_num, by rw [take_succ_of HX.out]; exact h3, hb.trans ?_⟩
        have hvs := HV.out
        exact (HB2.out.mono hbz).trans (k3.below (by omega) fun q h1 h2 => by
          have := (World.ownsRow.lt hvs q h2.symm).1
          omega)
      case measure => simp [intOf]; omega
    · obtain rfl : k = n := by omega
      go_wp2_with fail
      go_ret
      refine ⟨_, rfl, ?_, hb⟩
      have h3 := HO.out
      rwa [List.take_of_length_le (by have := HL.out; omega)] at h3

/-- small numbers -/
def SOk (m n : Nat) (s : ES) : Prop := s.d ≠ 0 ∧ (-2121320343 ≤ s.d ∧ s.d ≤ 2121320343) ∧ ∀ i, i < m → ∀ k, k < n → -2121320343 ≤ s.F i k ∧ s.F i k ≤ 2121320343
end Go.Proofs.Ytfbmpkdjhhcnpaa

