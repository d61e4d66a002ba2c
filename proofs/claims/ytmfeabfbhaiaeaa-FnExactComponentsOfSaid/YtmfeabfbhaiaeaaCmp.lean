/- ComponentsOf of the program (written by gen_cmp.py). -/
import Derived.Test.YtmfeabfbhaiaeaaCob
import Derived.Test.YtmfeabfbhaiaeaaSame
import Derived.Test.YtmfeabfbhaiaeaaMx
namespace Go.Proofs.Ytmfeabfbhaiaeaa
open Go.RowKit
set_option maxRecDepth 100000
set_option linter.unusedVariables false
set_option linter.unusedSimpArgs false

def cmpL (g : GraphT) : Nat → List (List Int)
  | 0 => []
  | e + 1 => if cobL g e g.1.toNat ∈ cmpL g e then cmpL g e else cmpL g e ++ [cobL g e g.1.toNat]
def cmpO (g : GraphT) : List (List Int) := if isGraphB g then cmpL g g.2.length else []
theorem cmpL_len (g : GraphT) : ∀ e, (cmpL g e).length ≤ e
  | 0 => Nat.le_refl _
  | e + 1 => by
    have := cmpL_len g e
    unfold cmpL
    split
    · omega
    · simp; omega
theorem cmpL_in {g : GraphT} {e : Nat} (h : cobL g e g.1.toNat ∈ cmpL g e) : cmpL g (e + 1) = cmpL g e := by
  conv => lhs; unfold cmpL
  rw [if_pos h]
theorem cmpL_new {g : GraphT} {e : Nat} (h : ¬ cobL g e g.1.toNat ∈ cmpL g e) : cmpL g (e + 1) = cmpL g e ++ [cobL g e g.1.toNat] := by
  conv => lhs; unfold cmpL
  rw [if_neg h]
theorem made_intssC (W : World) : OwnIntss (W.alloc (.cells #[] 73)) W.heap.size (.slice (some ⟨W.heap.size, 0, none⟩) 0 0) [] := ⟨[], World.ownsRow_made W #[] 0 (Nat.le_refl _) (Nat.zero_le _) rfl, IRows.nil _ _⟩
theorem ownsRow_baseC {W : World} {base base' : Nat} {v : Value} {ll : List (List Int)} (h : OwnIntss W base v ll) (hb : base' ≤ base) : OwnIntss W base' v ll := by
  obtain ⟨vs, h1, h2⟩ := h
  exact ⟨vs, ownsRow_base h1 hb, h2.mono hb⟩
theorem cmpL_row (g : GraphT) : ∀ e, ∀ r ∈ cmpL g e, r.length ≤ g.1.toNat
  | 0, r, h => by simp [cmpL] at h
  | e + 1, r, h => by
    unfold cmpL at h
    split at h
    · exact cmpL_row g e r h
    · rw [List.mem_append, List.mem_singleton] at h
      rcases h with h | rfl
      · exact cmpL_row g e r h
      · exact cobL_len g e _
theorem take_snoc {α : Type} {l : List α} {j : Nat} {r : α} (h : l[j]? = some r) : l.take (j + 1) = l.take j ++ [r] := by
  rw [List.take_add_one, h]; rfl
theorem dec_take {ll : List (List Int)} {j : Nat} {r c : List Int} (h : ll[j]? = some r) : decide (c ∈ ll.take (j + 1)) = (decide (c ∈ ll.take j) || decide (r = c)) := by
  rw [take_snoc h]
  by_cases h2 : r = c
  · subst h2; simp
  · have h3 : ¬ c = r := fun e => h2 e.symm
    simp [h2, h3]

set_option maxHeartbeats 16000000 in
theorem implCmp_at (W : World) (p : Int) (a : Option Addr) (cap : Nat) (l : List BarT) (h : BarsAt W a l.length l) (hs : l.length ≤ 1048576) :
    Calls Try.prog 16 #[.agg #[.int .i64 p, .slice a l.length cap]] W (RetIntss W (cmpO (p, l))) := by
  have hwd := @Wd.cells
  have HGr : Hid (IsGraph W (.agg #[.int .i64 p, .slice a l.length cap]) (p, l)) := Lib.hid ⟨a, cap, rfl, h⟩
  have H1 := Lib.hid h
  clear h
  have hsz : szGraph (p, l) ≤ 1048576 := hs
  have hsz2 : szGraph (p, l) ≤ 1099511627776 := Nat.le_trans hsz (by decide)
  have B : Below W.heap.size W (W.alloc (.cells #[.int .i64 p, .slice a l.length cap] 32)) := (Below.refl _ _).alloc (Nat.le_refl _) _
  have BG : Hid (BoxGr (W.alloc (.cells #[.int .i64 p, .slice a l.length cap] 32)) W.heap.size p a l.length cap) := Lib.hid (BoxGr.at rfl)
  have hba := belAl ((W.alloc (.cells #[.int .i64 p, .slice a l.length cap] 32))) (.cells #[] 73)
  have HO0 : Hid (OwnIntss (((W.alloc (.cells #[.int .i64 p, .slice a l.length cap] 32))).alloc (.cells #[] 73)) (W.heap.size + 1) (.slice (some ⟨W.heap.size + 1, 0, none⟩) 0 0) []) := Lib.hid (by have h9 := made_intssC ((W.alloc (.cells #[.int .i64 p, .slice a l.length cap] 32))); simpa using h9)
  have hzu : W.heap.size + 2 ≤ (((W.alloc (.cells #[.int .i64 p, .slice a l.length cap] 32))).alloc (.cells #[] 73)).heap.size := by simp
  replace B := B.step hba
  replace BG := Lib.hid (BG.out.below hba)
  clear hba
  go_enter Try.func16, Try.ntmps16
  go_wp2_with fail
  generalize (((W.alloc (.cells #[.int .i64 p, .slice a l.length cap] 32))).alloc (.cells #[] 73)) = u at *
  obtain ⟨zBG, fBG0, fBG1⟩ := BG.out
  try go_wp2_with fail
  refine (implIsGraph_at _ _ _ _ _ (H1.out.below B) (by omega)).mono ?_
  rintro e w1 ⟨rfl, b1⟩
  have HO1 := Lib.hid (HO0.out.below b1)
  have BG1 := Lib.hid (BG.out.below b1)
  have B1 := B.step b1
  have hz1 := b1.size
  have bu1 : Below (W.heap.size + 1) u w1 := b1.mono (by omega)
  clear zBG fBG0 fBG1
  cases hg : isGraphB (p, l)
  · have HE := Lib.hid (show cmpO (p, l) = [] by unfold cmpO; rw [hg]; rfl)
    clear hg
    go_wp2_with fail
    go_ret
    exact ⟨_, rfl, by rw [HE.out]; exact ownsRow_baseC HO1.out (by omega), B1⟩
  have HE := Lib.hid (show cmpO (p, l) = cmpL (p, l) l.length by unfold cmpO; rw [hg]; rfl)
  have hl24 := (isGraphB_bd hg).2
  have HG := Lib.hid hg
  clear hg
  obtain ⟨zBG, fBG0, fBG1⟩ := BG1.out
  go_wp2_with fail
  clear zBG fBG0 fBG1
  go_loopw [3, 17] (fun s i w9 => ∃ e : Nat, e ≤ l.length ∧ i = .int .i64 e ∧ OwnIntss w9 (W.heap.size + 1) s (cmpL (p, l) e) ∧ Below (W.heap.size + 1) u w9) (fun _ i _ => l.length - (intOf i).toNat)
  case atStart => exact ⟨0, Nat.zero_le _, rfl, HO1.out, bu1⟩
  case round =>
    obtain ⟨e, he, rfl, ho, hb⟩ := hrel
    obtain ⟨wr0, hwr0⟩ : ∃ w0, w0 = wr := ⟨_, rfl⟩
    subst hwr0
    have HO := Lib.hid ho
    clear ho
    have hbz := hb.size
    have BW := B.trans (hb.mono (by omega))
    have BGr := Lib.hid (show BoxGr wr0 W.heap.size p a l.length cap from ⟨Nat.lt_of_lt_of_le BG.out.1 hb.size, (hb.cell (p := ⟨W.heap.size, 0, none⟩) (by simp)).trans BG.out.2.1, (hb.cell (p := ⟨W.heap.size, 1, none⟩) (by simp)).trans BG.out.2.2⟩)
    have hce := cmpL_len (p, l) e
    by_cases hlt : e < l.length
    · have hlti : (e : Int) < (l.length : Int) := by omega
      obtain ⟨zBG, fBG0, fBG1⟩ := BGr.out
      go_wp2_with fail
      refine (implCob_at _ _ _ _ _ (H1.out.below BW) hs HG.out e hlt).mono ?_
      rintro q w5 ⟨vc, rfl, hoc, b5⟩
      clear zBG fBG0 fBG1
      have HOC := Lib.hid hoc
      have HO5 := Lib.hid (HO.out.below b5)
      have hb5 := hb.trans (b5.mono (by omega))
      have BW5 := BW.step b5
      have hz5 := b5.size
      have HIN := Lib.hid (@cmpL_in (p, l) e)
      have HNW := Lib.hid (@cmpL_new (p, l) e)
      have HRW := Lib.hid (cmpL_row (p, l) e)
      dsimp only at HIN HNW HRW
      obtain ⟨c, hc⟩ : ∃ c, c = cobL (p, l) e p.toNat := ⟨_, rfl⟩
      rw [← hc] at HIN HNW HOC
      obtain ⟨ll, hll⟩ : ∃ ll, ll = cmpL (p, l) e := ⟨_, rfl⟩
      rw [← hll] at HIN HNW HO5 HO HRW hce
      have hp8 : p.toNat ≤ 8 := by have := (isGraphB_bd HG.out).1; omega
      obtain ⟨ac, cc, rfl, hic⟩ := hoc.form
      obtain ⟨al, cl, rfl, hil⟩ := HO5.out.form
      rw [← hc] at hic HOC ⊢
      have HIC := Lib.hid hic
      have HIL := Lib.hid hil
      clear hoc hic hil hc hll
      go_wp2_with fail
      obtain ⟨wo, hwo⟩ : ∃ wo, wo = w5 := ⟨_, rfl⟩
      subst hwo
      go_loopw [6, 25] (fun f i w9 => ∃ j : Nat, j ≤ ll.length ∧ i = .int .i64 j ∧ f = .bool (decide (c ∈ ll.take j)) ∧ Below wo.heap.size wo w9) (fun _ i _ => ll.length - (intOf i).toNat)
      case atStart => exact ⟨0, Nat.zero_le _, rfl, by simp, Below.refl _ _⟩
      case round =>
        obtain ⟨j, hj, rfl, rfl, hbj⟩ := hrel
        have hzj := hbj.size
        by_cases hlj : j < ll.length
        · have hlji : (j : Int) < (ll.length : Int) := by omega
          have hj0 : (0 : Int) ≤ (j : Int) := by omega
          obtain ⟨bm, om, ar, cr, r, rfl, hbm, hr, hcm, hir⟩ := (HIL.out.below hbj).2 j hlj
          have HT := Lib.hid (dec_take (c := c) hr)
          have hrl : r.length ≤ 8 := Nat.le_trans (HRW.out r (List.mem_of_getElem? hr)) hp8
          have HIR := Lib.hid hir
          clear hr hir
          cases hd : decide (c ∈ ll.take j)
          · rw [hd] at HT
            go_wp2_with fail
            refine (slEqInts_any _ _ _ _ _ _ _ _ _ HIR.out (HIC.out.below hbj) (by omega)).mono ?_
            rintro q w7 ⟨rfl, hm⟩
            have b7 : Below wr.heap.size wr w7 := by
              obtain ⟨m, rfl⟩ := hm
              exact drewN_below (Below.refl _ _) m
            clear hm
            generalize decide (r = c) = dq at *
            go_wp2_with fail
            go_roundw
            case rel => exact ⟨j + 1, hlj, by go_num, by rw [HT.out]; simp, hbj.step b7⟩
            case measure => simp [intOf]; omega
          · rw [hd] at HT
            go_wp2_with fail
            go_roundw
            case rel => exact ⟨j + 1, hlj, by go_num, by rw [HT.out]; simp, hbj⟩
            case measure => simp [intOf]; omega
        · obtain rfl : j = ll.length := by omega
          rw [List.take_length]
          have HO7 := Lib.hid (HO5.out.below hbj)
          have HC7 := Lib.hid (HOC.out.below hbj)
          have hz55 := hb5.size
          have hb7 := hb5.trans (hbj.mono (by omega))
          by_cases hin : c ∈ ll
          · have HS := Lib.hid (HIN.out hin)
            have hd : decide (c ∈ ll) = true := decide_eq_true hin
            rw [hd]
            clear hin
            go_wp2_with fail
            go_roundw
            case rel => exact ⟨e + 1, hlt, by go_num, by rw [HS.out]; exact HO7.out, hb7⟩
            case measure => simp [intOf]; omega
          · have HS := Lib.hid (HNW.out hin)
            have hd : decide (c ∈ ll) = false := decide_eq_false hin
            rw [hd]
            clear hin
            obtain ⟨vs, hvs, hrs⟩ := HO.out
            have HV := Lib.hid hvs
            have HVR := Lib.hid hrs
            have hap : ∀ b, Value.ownBlock (.slice ac c.length cc) = some b → wr0.heap.size ≤ b := fun b hb9 => (World.ownsRow.lt HOC.out b hb9).1
            go_wp2_with (at_builtin; refine appRow (by rfl) (.tmp 38) (.tmp 40) (by rfl) (by rfl) (ownsRow_base HC7.out (by omega)) (b5.step hbj) HV.out HVR.out hap (by rfl) (by omega) (by omega) ?_; intro v' w8 h8 k8)
            go_roundw
            case rel => exact ⟨e + 1, hlt, by go_num, by rw [HS.out]; exact h8, hb7.trans (k8.below (by omega) fun z h1 h2 => by have := (World.ownsRow.lt HV.out z h2.symm).1; omega)⟩
            case measure => simp [intOf]; omega
    · obtain rfl : e = l.length := by omega
      go_wp2_with fail
      go_ret
      exact ⟨_, rfl, by rw [HE.out]; exact ownsRow_baseC HO.out (by omega), BW⟩
end Go.Proofs.Ytmfeabfbhaiaeaa
