/- Drawing matrices: l9Matrix of the reference. No condition but sizes. -/
import Derived.Test.YtfdhbbhfilkafaaMdr
import Derived.Test.YtfdhbbhfilkafaaTrp
import Derived.Test.YtfdhbbhfilkafaaOrdY
import Derived.Deep.RegionHeld3
namespace Go.Proofs.Ytfdhbbhfilkafaa
open Go.RowKit
set_option maxRecDepth 100000
set_option linter.unusedVariables false
set_option linter.unusedSimpArgs false
/-- a matrix that is read, all its blocks from lo on -/
def FrIntss (W : World) (lo : Nat) (a : Option Addr) (n : Nat) (ll : List (List Int)) : Prop :=
  ll.length = n ∧ ∀ k, k < n → ∃ b off ar cr r, a = some ⟨b, off, none⟩ ∧ b < W.heap.size ∧ lo ≤ b ∧ ll[k]? = some r ∧ W.cell? ⟨b, off + k, none⟩ = some (.slice ar r.length cr) ∧ IntsAt W ar r.length r ∧ ∀ b' off', ar = some ⟨b', off', none⟩ → lo ≤ b'
theorem FrIntss.at {W : World} {lo n : Nat} {a : Option Addr} {ll : List (List Int)} (h : FrIntss W lo a n ll) : IntssAt W a n ll :=
  ⟨h.1, fun k hk => by
    obtain ⟨b, off, ar, cr, r, h1, h2, h3, h4, h5, h6, h7⟩ := h.2 k hk
    exact ⟨b, off, ar, cr, r, h1, h2, h4, h5, h6⟩⟩
theorem FrIntss.kept {S : Nat → Prop} {W W' : World} {lo n : Nat} {a : Option Addr} {ll : List (List Int)} (h : FrIntss W lo a n ll) (hk : Kept S W W') (hS : ∀ b, lo ≤ b → ¬ S b) : FrIntss W' lo a n ll :=
  ⟨h.1, fun k hkn => by
    obtain ⟨b, off, ar, cr, r, h1, h2, h3, h4, h5, h6, h7⟩ := h.2 k hkn
    exact ⟨b, off, ar, cr, r, h1, Nat.lt_of_lt_of_le h2 hk.size, h3, h4, (World.cell?_of_block (w := W) (a := ⟨b, off + k, none⟩) (hk.block b h2 (hS b h3))).trans h5, h6.kept hk fun b' off' e => hS b' (h7 b' off' e), h7⟩⟩
theorem OwnIntss.fr {W : World} {base : Nat} {v : Value} {ll : List (List Int)} (h : OwnIntss W base v ll) : ∃ a c, v = .slice a ll.length c ∧ FrIntss W base a ll.length ll := by
  obtain ⟨vs, ho, hr⟩ := h
  rcases ho.2 with ⟨rfl, h0⟩ | ⟨g, cap, cur, rfl, hb, hg, hnc, hcm, hcs, htake⟩
  · exact ⟨none, 0, by rw [h0], rfl, fun k hk => by omega⟩
  · refine ⟨_, cap, rfl, rfl, fun k hk => ?_⟩
    obtain ⟨u, r, hu, hrr, hor⟩ := hr.get hk
    obtain ⟨ar, cr, rfl, hi⟩ := hor.form
    refine ⟨g, 0, ar, cr, r, rfl, (Array.getElem?_eq_some_iff.1 hg).1, hb, hrr, ?_, hi, fun b' off' e => (hor.lt b' (by subst e; rfl)).1⟩
    have := World.ownsRow.cellAt (w := W) (base := base) ho k (by omega)
    rw [Nat.zero_add, this, hu]
theorem OwnIntss.on {w w' : World} {base g : Nat} {v : Value} {ll : List (List Int)} (h : OwnIntss w base v ll) (k : Kept (fun b => b = g) w w') (hg : g < base) : OwnIntss w' base v ll := by
  obtain ⟨vs, ho, hr⟩ := h
  exact ⟨vs, k.ownsRow ho fun b h1 h2 => by have := (World.ownsRow.lt ho b h1).1; omega, hr.kept k fun u hu b h1 h2 => by have := (hr.lt u hu b h1).1; omega⟩
theorem OwnIntss.ge {w : World} {base : Nat} {v : Value} {ll : List (List Int)} (h : OwnIntss w base v ll) (k : Nat) (hk : some k = v.ownBlock) : base ≤ k := by
  obtain ⟨vs, ho, hr⟩ := h
  exact (World.ownsRow.lt ho k hk.symm).1
/-- 'append(s, u)' of one row that lies behind all rows -/
theorem appRowK {w : World} {ops : Array Oper} {rest : List Oper} {o : Oper} {a : Act} {Q : Exit → Act → World → Prop} (hg : o.guard = none) (s x : Operand)
    (ho : o.op = .call { callee := .builtin .append, args := #[s, x], argTypes := #[31, 31] }) {base mid : Nat} {v : Value} {ll : List (List Int)} (hs : a.eval s = v) {u : Value} {r : List Int} (hu : OwnInts w mid u r)
    {W0 : World} (hw : OwnIntss W0 base v ll) {g : Nat} (hk0 : Kept (fun b => b = g) W0 w) (hgb : g < base) (hmid : W0.heap.size ≤ mid) (hbm : base ≤ mid)
    (hx : a.eval x = .slice (some ⟨w.heap.size, 0, none⟩) 1 1) (hl : ll.length < 1099511627776) (hbase : base ≤ w.heap.size)
    (hK : ∀ v' w', OwnIntss w' base v' (ll ++ [r]) → Kept (fun k => some k = v.ownBlock) w w' → wpList Try.prog ops Q rest (a.put o.dst v') w') :
    wpList Try.prog ops Q (o :: rest) a (w.alloc (.cells #[u] 35)) := by
  obtain ⟨vs, hv0, hr0⟩ := hw
  have hv1 : w.ownsRow base 35 1 v ll.length vs := hk0.ownsRow hv0 fun b h1 h2 => by have := (World.ownsRow.lt hv0 b h1).1; omega
  have hr1 : IRows w base vs ll := hr0.kept hk0 fun u hu b h1 h2 => by have := (hr0.lt u hu b h1).1; omega
  obtain ⟨i0, hi, hz0, hz1, hz2⟩ := info_parts infoInts
  refine wpList_append_own _ hg s x 31 ho base 35 i0 (.slice none 0 0) 1 24 Try.underlying31 hi hz0 hz1 hz2 rfl (by decide) v ll.length vs hs (World.ownsRow.alloc hv1 _) ⟨w.heap.size, 0, none⟩ 1 1 [u] hx rfl (cell_one_new _ _ _) ?_ ?_ ?_ ?_ ?_
  · intro q hq
    simp at hq
    subst hq
    rcases hu.2 with ⟨rfl, _⟩ | ⟨g, c, cur, rfl, _⟩ <;> rfl
  · unfold maxLen; omega
  · omega
  · simp; omega
  · intro v' w' h1 h2 _
    have hk : Kept (fun k => some k = v.ownBlock) w w' := (Kept.of_below ((Below.refl _ _).alloc (Nat.le_refl _) _)).trans ⟨h2.os, h2.tape, h2.output, h2.size, fun k hk hs => h2.block k hk hs⟩
    refine hK v' w' ⟨vs ++ [u], by rw [List.length_append]; exact h1, ?_⟩ hk
    refine (hr1.outer hv1 hk).snoc (ownsRow_base (hu.outer hv1 hk) hbm) fun q hq b h3 h4 => ?_
    have h5 := (hu.lt b h4).1
    have h6 := (hr0.lt q hq b h3).2
    omega
theorem MatO.on {w w' : World} {base gx g n cap : Nat} {vs : List Value} {ll : List (List Int)} (h : MatO w base gx n cap vs ll) (k : Kept (fun b => b = g) w w') (hg : g < base) : MatO w' base gx n cap vs ll :=
  ⟨k.ownsRow h.out fun b h1 h2 => by have := (World.ownsRow.lt h.out b h1).1; omega, h.rows.kept k fun u hu b h1 h2 => by have := (h.rows.lt u hu b h1).1; omega⟩
/-- the first row loses its first number -/
theorem MatO.cut {w : World} {base g n cap : Nat} {vs : List Value} {ll : List (List Int)} (h : MatO w base g n cap vs ll) {b c : Nat} {r : List Int} (hv : vs[0]? = some (.slice (some ⟨b, 0, none⟩) r.length c)) (hr : ll[0]? = some r) (hr1 : 1 ≤ r.length) (o : Nat) (ho : o = 1 ∨ r.length - 1 = 0) (c' : Nat) :
    FrIntss (w.setCell ⟨g, 0, none⟩ (.slice (some ⟨b, o, none⟩) (r.length - 1) c')) base (some ⟨g, 0, none⟩) (ll.set 0 (r.drop 1)).length (ll.set 0 (r.drop 1)) := by
  have hl := h.len
  have hor := h.rows.own 0 _ _ hv hr
  have hgb : b ≠ g := fun e => outer_apart h.out hor g rfl (by rw [← e]; rfl)
  refine ⟨rfl, fun k hk => ?_⟩
  rw [List.length_set] at hk
  have hc0 := World.ownsRow.cellAt h.out k (by omega)
  have hgl := h.blk
  by_cases hk0 : k = 0
  · subst hk0
    refine ⟨g, 0, some ⟨b, o, none⟩, c', r.drop 1, rfl, by simpa using hgl.1, hgl.2, List.getElem?_set_self (by omega), ?_, ?_, ?_⟩
    · rw [hv] at hc0
      simpa using World.cell?_setCell_same _ _ _ hc0
    · refine ⟨rfl, fun j hj => ?_⟩
      rw [List.length_drop] at hj
      have hx : r[j + 1]? = some (r[j + 1]'(by omega)) := List.getElem?_eq_getElem _
      obtain rfl : o = 1 := by omega
      refine ⟨b, 1, r[j + 1]'(by omega), rfl, by simpa using (hor.lt b rfl).2, by rw [List.getElem?_drop, Nat.add_comm 1 j]; exact hx, ?_⟩
      rw [World.cell?_setCell_other _ _ _ _ (by simp [hgb]), Nat.add_comm 1 j]
      exact hor.cellAt hx
    · intro b' off' e
      simp at e
      have := (hor.lt b rfl).1
      omega
  · obtain ⟨u, s, hu, hs, hos⟩ := h.rows.get (k := k) (by omega)
    obtain ⟨ar, cr, rfl, hi⟩ := hos.form
    have hk2 : Kept (fun k => k = g) w (w.setCell ⟨g, 0, none⟩ (.slice (some ⟨b, o, none⟩) (r.length - 1) c')) := keptSet rfl
    have hne : ∀ b' off', ar = some ⟨b', off', none⟩ → b' ≠ g := fun b' off' e e2 => outer_apart h.out hos g rfl (by rw [e, ← e2]; rfl)
    refine ⟨g, 0, ar, cr, s, rfl, by simpa using hgl.1, hgl.2, by rw [List.getElem?_set_ne (Ne.symm hk0)]; exact hs, ?_, hi.kept hk2 hne, fun b' off' e => (hos.lt b' (by rw [e]; rfl)).1⟩
    rw [hu] at hc0
    rw [Nat.zero_add]
    exact (World.cell?_setCell_other _ _ _ _ (by simp; try omega)).trans hc0
theorem rowCap {w : World} {base b c : Nat} {r : List Int} (h : OwnInts w base (.slice (some ⟨b, 0, none⟩) r.length c) r) : r.length ≤ c := by
  rcases h.2 with ⟨e, h0⟩ | ⟨g, cap, cur, e, hb, hg, hnc, _⟩
  · simp at e
  · simp at e
    rw [e.2]
    exact hnc
theorem cutLen {ll : List (List Int)} {C : Nat} {r : List Int} (h : ∀ s ∈ ll, s.length = C) (hC : C ≤ 5) (hr : r ∈ ll) : ∀ s ∈ ll.set 0 (r.drop 1), s.length ≤ 5 := by
  intro s hs
  rcases List.mem_or_eq_of_mem_set hs with h1 | h1
  · rw [h s h1]; exact hC
  · rw [h1, List.length_drop, h r hr]; omega
/-- what l9Matrix hands back -/
def RetDm (W0 w : World) (g : Nat) (ca : Option Addr) (n cap : Nat) (l : List Int) (e : Ending) (w' : World) : Prop :=
  ∃ a c ll, e = .returned (.slice a ll.length c) ∧ FrIntss w' w.heap.size a ll.length ll ∧ (1 ≤ ll.length ∧ ll.length ≤ 5) ∧ (∀ r ∈ ll, r.length ≤ 5) ∧ Drw W0 w' g ca n cap l ∧ Kept (fun b => b = g) w w'
set_option maxHeartbeats 8000000 in
theorem l9Matrix_at (W0 w : World) (g : Nat) (ca : Option Addr) (n cap : Nat) (l : List Int) (hB : BytesAt W0 ca n l) (hn : n ≤ 1099511627776) (h : Drw W0 w g ca n cap l) :
    Calls Try.prog 86 #[.pointer (some ⟨g, 0, none⟩)] w (RetDm W0 w g ca n cap l) := by
  have HD : Hid (∀ (m : Int) w9, 1 ≤ m ∧ m ≤ 256 → Drw W0 w9 g ca n cap l → Calls Try.prog 92 #[.pointer (some ⟨g, 0, none⟩), .int .i64 m] w9 (RetDi W0 w9 g ca n cap l 0 (m - 1))) := Lib.hid fun m w9 hm h9 => l1Below_at W0 w9 g ca n cap l hB hn h9 m hm
  have HP : Hid (∀ w9, Drw W0 w9 g ca n cap l → ∀ base, g < base → ∀ v xs, OwnInts w9 base v xs → 1 ≤ xs.length → xs.length ≤ 256 → Calls Try.prog 93 #[.pointer (some ⟨g, 0, none⟩), v] w9 fun e w' => ∃ x, x ∈ xs ∧ e = .returned (.int .i64 x) ∧ Drw W0 w' g ca n cap l ∧ Kept (fun b => b = g) w9 w') := Lib.hid fun w9 h9 base hg v xs ho h1 h2 => l1PickInt_at W0 w9 g ca n cap l hB hn h9 hg ho h1 h2
  have HN : Hid (∀ (m : Int) w9, 1 ≤ m ∧ m ≤ 256 → Drw W0 w9 g ca n cap l → Calls Try.prog 94 #[.pointer (some ⟨g, 0, none⟩), .int .i64 m] w9 (RetDb W0 w9 g ca n cap l)) := Lib.hid fun m w9 hm h9 => l1Once_at W0 w9 g ca n cap l hB hn h9 m hm
  have hgw := h.hi
  have hg0 := h.low
  have D := Lib.hid h
  clear hB h
  go_enter Try.func86, Try.ntmps86
  go_wp2_with fail
  refine (HD.out 5 w (by decide) D.out).mono ?_
  rintro e w1 ⟨x, hx, rfl, d1, k1⟩
  replace D := Lib.hid d1
  have K := Lib.hid k1
  have hz1 := k1.size
  clear d1 k1
  have hwx := IntWalk.i64_in (1 + x) (by omega)
  go_wp2_with fail
  refine (HD.out 5 w1 (by decide) D.out).mono ?_
  rintro e w2 ⟨y, hy, rfl, d1, k1⟩
  replace D := Lib.hid d1
  replace K := Lib.hid (K.out.trans k1)
  have hz2 := k1.size
  clear d1 k1
  have hwy := IntWalk.i64_in (1 + y) (by omega)
  obtain ⟨R, hR⟩ : ∃ R : Nat, 1 + x = R := ⟨(1 + x).toNat, by omega⟩
  obtain ⟨C, hC⟩ : ∃ C : Nat, 1 + y = C := ⟨(1 + y).toNat, by omega⟩
  have hR1 : 1 ≤ R ∧ R ≤ 5 := by omega
  have hC1 : 1 ≤ C ∧ C ≤ 5 := by omega
  rw [hR] at hwx
  rw [hC] at hwy
  have ba := belAl w2 (.cells #[] 35)
  have HO0 : Hid (OwnIntss (w2.alloc (.cells #[] 35)) w.heap.size (.slice (some ⟨w2.heap.size, 0, none⟩) 0 0) []) := Lib.hid ⟨[], World.ownsRow_made w2 #[] 0 (by omega) (Nat.zero_le _) rfl, IRows.nil _ _⟩
  have D0 := Lib.hid (D.out.below ba)
  have K0 := Lib.hid (K.out.trans (Kept.of_below (S := fun b => b = g) ba))
  clear ba D K
  have HRC := Lib.hid (And.intro hR hC)
  go_wp2_with fail
  try rw [hR]
  try rw [hC]
  clear hR hC hx hy hwx hwy
  generalize (w2.alloc (.cells #[] 35)) = u at *
  go_loopw [5, 6] (fun o i w9 => ∃ ll : List (List Int), ll.length ≤ R ∧ i = .int .i64 ll.length ∧ OwnIntss w9 w.heap.size o ll ∧ (∀ r ∈ ll, r.length = C) ∧ Drw W0 w9 g ca n cap l ∧ Kept (fun b => b = g) w w9) (fun _ i _ => R - (intOf i).toNat)
  case atStart => exact ⟨[], Nat.zero_le _, rfl, HO0.out, by simp, D0.out, K0.out⟩
  case round =>
    clear HO0 D0 K0 hz1 hz2
    obtain ⟨ll, hk, rfl, ho, hll, hd, hkp⟩ := hrel
    have HO := Lib.hid ho
    have HL := Lib.hid hll
    have D := Lib.hid hd
    have K := Lib.hid hkp
    have hzr := hkp.size
    clear ho hll hd hkp
    by_cases hlt : ll.length < R
    · have hki : (ll.length : Int) < (R : Int) := by omega
      have ba := belAl wr (.cells #[] 3)
      have HI0 := Lib.hid (OwnInts.made wr wr.heap.size (Nat.le_refl _))
      have D0 := Lib.hid (D.out.below ba)
      have K0 := Lib.hid (Kept.of_below (S := fun b => b = g) ba)
      clear ba
      go_wp2_with fail
      generalize (wr.alloc (.cells #[] 3)) = u2 at *
      obtain ⟨wA, hwA⟩ : ∃ w9, w9 = wr := ⟨_, rfl⟩
      subst hwA
      go_loopw [7, 8] (fun o i w9 => ∃ xs : List Int, xs.length ≤ C ∧ i = .int .i64 xs.length ∧ OwnInts w9 wA.heap.size o xs ∧ Drw W0 w9 g ca n cap l ∧ Kept (fun b => b = g) wA w9) (fun _ i _ => C - (intOf i).toNat)
      case atStart => exact ⟨[], Nat.zero_le _, rfl, HI0.out, D0.out, K0.out⟩
      case round =>
        clear HI0 D0 K0
        obtain ⟨xs, hkx, rfl, hox, hdx, hkx2⟩ := hrel
        have HX := Lib.hid hox
        have DX := Lib.hid hdx
        have KX := Lib.hid hkx2
        have hzx := hkx2.size
        clear hox hdx hkx2
        by_cases hlx : xs.length < C
        · have hkc : (xs.length : Int) < (C : Int) := by omega
          go_wp2_with fail
          refine (HD.out 5 wr (by decide) DX.out).mono ?_
          rintro e w5 ⟨x, hx, rfl, d1, k1⟩
          have D1 := Lib.hid d1
          have K1 := Lib.hid (KX.out.trans k1)
          have HX1 := Lib.hid (HX.out.on k1 (by omega))
          have hz5 := k1.size
          have hw := IntWalk.i64_in (x - 2) (by omega)
          clear d1 k1
          go_wp2_with (at_builtin; refine app1At rfl (.tmp 27) (.tmp 31) rfl rfl HX1.out (x - 2) rfl (by omega) (by omega) ?_; intro v6 w6 h6 k6 a6)
          have HB := Lib.hid HX1.out.ge
          go_roundw
          case rel => exact ⟨xs ++ [x - 2], by simp; omega, by simp, h6, D1.out.kept k6 (fun e => by have := HB.out _ e; omega) (fun b hb e => by have := HB.out _ e; omega), K1.out.on k6 fun i hi e => by have := HB.out _ e; omega⟩
          case measure => simp [intOf]; omega
        · have hxc : xs.length = C := by omega
          have hkc : ¬ (xs.length : Int) < (C : Int) := by omega
          have HXC := Lib.hid hxc
          clear hxc
          obtain ⟨au, cu, rfl, hiu⟩ := HX.out.form
          clear hiu
          go_wp2_with (at_builtin; refine appRowK (by rfl) (.tmp 33) (.tmp 35) (by rfl) (by rfl) HX.out HO.out KX.out hgw (Nat.le_refl _) (by omega) (by rfl) (by omega) (by omega) ?_; intro v8 w8 h8 k8)
          have HB := Lib.hid HO.out.ge
          go_roundw
          case rel => exact ⟨ll ++ [xs], by simp; omega, by simp, h8, (fun r hr => by
            rcases List.mem_append.1 hr with h1 | h1
            · exact HL.out r h1
            · simp at h1; rw [h1]; exact HXC.out), DX.out.kept k8 (fun e => by have := HB.out _ e; omega) (fun b hb e => by have := HB.out _ e; omega), (K.out.trans KX.out).on k8 fun i hi e => by have := HB.out _ e; omega⟩
          case measure => simp [intOf]; omega
    · have hlR : ll.length = R := by omega
      have hki : ¬ (ll.length : Int) < (R : Int) := by omega
      have HLR := Lib.hid hlR
      clear hlR
      obtain ⟨gm, cm, vs, rfl, hm⟩ := HO.out.mat (by have := HLR.out; omega)
      have HM := Lib.hid hm
      have hl15 : 1 ≤ ll.length ∧ ll.length ≤ 5 := by have := HLR.out; omega
      clear HO hm hk
      by_cases hR2 : (1 : Int) < (R : Int)
      · go_wp2_with fail
        refine (HN.out 3 wr (by decide) D.out).mono ?_
        rintro e w3 ⟨bq, rfl, d1, k1⟩
        replace D := Lib.hid d1
        replace K := Lib.hid (K.out.trans k1)
        replace HM := Lib.hid (HM.out.on k1 hgw)
        clear d1 k1
        cases bq
        · go_wp2_with fail
          refine (HD.out 14 w3 (by decide) D.out).mono ?_
          rintro e w4 ⟨z, hz, rfl, d1, k1⟩
          replace D := Lib.hid d1
          replace K := Lib.hid (K.out.trans k1)
          replace HM := Lib.hid (HM.out.on k1 hgw)
          clear d1 k1
          obtain ⟨r0, hr0⟩ : ∃ r, ll[0]? = some r := ⟨_, List.getElem?_eq_getElem (by omega)⟩
          have hrC : r0.length = C := HL.out r0 (List.mem_of_getElem? hr0)
          obtain ⟨b0, c0, hv0, cell0, ho0, hb0, hbb0⟩ := HM.out.row hr0 (by omega)
          have HR0 := Lib.hid hr0
          have HV0 := Lib.hid hv0
          have HOR := Lib.hid ho0
          have fz := HM.out.froz 0
          have hgm := HM.out.blk
          have hlen0 : (0 : Int) < (ll.length : Int) := by omega
          have hlenN : 0 < ll.length := by omega
          clear hr0 hv0 ho0
          have KW := Lib.hid (fun (w5 : World) (hk5 : Kept (fun b => b = gm) w4 w5) => K.out.on hk5 fun i h1 h2 => by omega)
          by_cases hz0 : z = 0
          · obtain rfl := hz0
            have hr1 : (1 : Int) ≤ (r0.length : Int) := by omega
            clear hz
            have hcap := rowCap HOR.out
            have FC := Lib.hid (fun (o : Nat) (ho : o = 1 ∨ r0.length - 1 = 0) (c' : Nat) => HM.out.cut HV0.out HR0.out (by omega) o ho c')
            have FL := Lib.hid (cutLen HL.out (by omega) (List.mem_of_getElem? HR0.out))
            rw [hrC] at FC
            go_wp2_with fail
            all_goals
              go_ret
              refine ⟨some ⟨gm, 0, none⟩, cm, ll.set 0 (r0.drop 1), by rw [List.length_set]; rfl, FC.out _ (by omega) _, ?_⟩
              · rw [List.length_set]
                exact ⟨⟨by omega, by omega⟩, FL.out, D.out.kept (keptSet (S := fun b => b = gm) rfl) (by omega) (fun b hb => by omega), KW.out _ (keptSet rfl)⟩
          · by_cases hz1 : z = 1
            · obtain rfl := hz1
              clear hz
              have hr1 : (0 : Int) < (r0.length : Int) := by omega
              go_wp2_with fail
              have bd : Below w4.heap.size w4 w4.drew := (Below.refl _ _).drew
              have HMD := Lib.hid (HM.out.below bd)
              have DD := Lib.hid (D.out.below bd)
              have KD := Lib.hid (K.out.trans (Kept.of_below (S := fun b => b = g) bd))
              have s0 : w4.drew.cell? ⟨gm, 0, none⟩ = some (.slice (some ⟨b0, 0, none⟩) r0.length c0) ∧ True := ⟨cell0, trivial⟩
              refine wp_regionZ (fun w' => w'.cell? ⟨gm, 0, none⟩ = some (.slice (some ⟨b0, 0, none⟩) r0.length c0) ∧ True) 7 (by kernel_rfl) ?_
              have hzd : w.heap.size ≤ w4.drew.heap.size := KD.out.size
              have hgd : gm < w4.drew.heap.size := hgm.1
              clear HM D K bd cell0 fz KW
              generalize w4.drew = wd at *
              refine wpAnyZ_takeC (i := 0) (v := ?_) [1, 2, 6, 7] rfl (by kernel_rfl) (by kernel_rfl) (by kernel_rfl) (by kernel_rfl) (by kernel_rfl) (by kernel_rfl) (fun _ _ _ h => h) (s0) (by rfl) ?_ ?_
              rotate_left
              · intro x hx; obtain ⟨u1, u2⟩ := hx; go_simp; try (with_reducible rfl)
              try simp only [Act.put, List.setIfInBounds_toArray, List.set_cons_zero, List.set_cons_succ, List.getElem_toArray, List.getElem_cons_zero, List.getElem_cons_succ]
              refine wpAnyZ_takeC (i := 1) (v := ?_) [2, 6, 7] rfl (by kernel_rfl) (by kernel_rfl) (by kernel_rfl) (by kernel_rfl) (by kernel_rfl) (by kernel_rfl) (fun _ _ _ h => h) (s0) (by rfl) ?_ ?_
              rotate_left
              · intro x hx; obtain ⟨u1, u2⟩ := hx; go_simp; try (with_reducible rfl)
              try simp only [Act.put, List.setIfInBounds_toArray, List.set_cons_zero, List.set_cons_succ, List.getElem_toArray, List.getElem_cons_zero, List.getElem_cons_succ]
              refine wpAnyZ_takeC (i := 2) (v := ?_) [6, 7] rfl (by kernel_rfl) (by kernel_rfl) (by kernel_rfl) (by kernel_rfl) (by kernel_rfl) (by kernel_rfl) (fun _ _ _ h => h) (s0) (by rfl) ?_ ?_
              rotate_left
              · intro x hx; obtain ⟨u1, u2⟩ := hx; go_simp; try (with_reducible rfl)
              try simp only [Act.put, List.setIfInBounds_toArray, List.set_cons_zero, List.set_cons_succ, List.getElem_toArray, List.getElem_cons_zero, List.getElem_cons_succ]
              refine wpAnyZ_takeC (i := 3) (v := ?_) [5, 6, 7] rfl (by kernel_rfl) (by kernel_rfl) (by kernel_rfl) (by kernel_rfl) (by kernel_rfl) (by kernel_rfl) (fun _ _ _ h => h) (s0) (by rfl) ?_ ?_
              rotate_left
              · intro x hx; obtain ⟨u1, u2⟩ := hx; go_simp; try (with_reducible rfl)
              try simp only [Act.put, List.setIfInBounds_toArray, List.set_cons_zero, List.set_cons_succ, List.getElem_toArray, List.getElem_cons_zero, List.getElem_cons_succ]
              have bl := belAl wd (.cells #[.int .i64 8, .int .i64 9, .int .i64 (-9)] 3)
              have sA : (wd.alloc (.cells #[.int .i64 8, .int .i64 9, .int .i64 (-9)] 3)).cell? ⟨gm, 0, none⟩ = some (.slice (some ⟨b0, 0, none⟩) r0.length c0) ∧ True := ⟨(bl.cell (p := ⟨gm, 0, none⟩) hgd).trans s0.1, trivial⟩
              have DA := Lib.hid (DD.out.below bl)
              have HMA := Lib.hid (HMD.out.below bl)
              have KA := Lib.hid (KD.out.trans (Kept.of_below (S := fun b => b = g) bl))
              have HLIT : Hid (OwnInts (wd.alloc (.cells #[.int .i64 8, .int .i64 9, .int .i64 (-9)] 3)) wd.heap.size (.slice (some ⟨wd.heap.size, 0, none⟩) 3 3) [8, 9, -9]) := Lib.hid ⟨by simp, .inr ⟨wd.heap.size, 3, #[.int .i64 8, .int .i64 9, .int .i64 (-9)], rfl, Nat.le_refl _, heap_alloc_new wd _, Nat.le_refl _, by decide, rfl, by simp⟩⟩
              clear bl s0 DD HMD KD
              refine wpAnyZ_step (i := 4) (by kernel_rfl) rfl (by rfl) ?_
              intro KK hKK
              go_simp
              refine hKK.out _ _ (.inr sA) ?_
              clear hKK KK
              try simp only [Act.put, List.setIfInBounds_toArray, List.set_cons_zero, List.set_cons_succ, List.getElem_toArray, List.getElem_cons_zero, List.getElem_cons_succ]
              refine wpAnyZ_step (i := 5) (by kernel_rfl) rfl (by rfl) ?_
              intro KK hKK
              go_simp
              go_at_call 93
              refine (HP.out _ DA.out _ (by omega) _ _ HLIT.out (by simp) (by simp)).mono ?_
              rintro e w7 ⟨y, hy, rfl, d7, k7⟩
              have D7 := Lib.hid d7
              have K7 := Lib.hid (KA.out.trans k7)
              have HM7 := Lib.hid (HMA.out.on k7 hgw)
              have hz7 := k7.size
              clear d7 k7 DA KA HMA hy HLIT
              obtain ⟨b1, c1, hv1, cell1, ho1, hb1, hbb1⟩ := HM7.out.row HR0.out (by omega)
              rw [HV0.out] at hv1
              simp at hv1
              obtain ⟨rfl, rfl⟩ := hv1
              have hrc : 0 < r0.length := by omega
              have hC0 : 0 < C := by omega
              have hC0i : (0 : Int) < (C : Int) := by omega
              have cx : w7.cell? ⟨b0, 0, none⟩ = some (.int .i64 (r0[0]'(by omega))) := ho1.cellAt (List.getElem?_eq_getElem hrc)
              have fx := ho1.frozAt 0
              have FC := Lib.hid (fun y => HM7.out.setIn HV0.out HR0.out 0 y)
              clear ho1 sA
              go_wp2_with fail
              refine hKK.out _ _ (.inr ⟨cell1, trivial⟩) ?_
              clear hKK KK
              try simp only [Act.put, List.setIfInBounds_toArray, List.set_cons_zero, List.set_cons_succ, List.getElem_toArray, List.getElem_cons_zero, List.getElem_cons_succ]
              refine wpAnyZ_step (i := 6) (by kernel_rfl) rfl (by rfl) ?_
              intro KK hKK
              go_simp
              refine hKK.out _ _ (.inr ⟨cell1, trivial⟩) ?_
              clear hKK KK
              try simp only [Act.put, List.setIfInBounds_toArray, List.set_cons_zero, List.set_cons_succ, List.getElem_toArray, List.getElem_cons_zero, List.getElem_cons_succ]
              refine wpAnyZ_step (i := 7) (by kernel_rfl) rfl (by rfl) ?_
              intro KK hKK
              go_simp
              refine hKK.out _ _ (.inl (by kernel_rfl)) ?_
              clear hKK KK
              try simp only [Act.put, List.setIfInBounds_toArray, List.set_cons_zero, List.set_cons_succ, List.getElem_toArray, List.getElem_cons_zero, List.getElem_cons_succ]
              refine wpAnyZ_done (by kernel_rfl) ?_ _
              go_wp2_with fail
              go_ret
              obtain ⟨a9, c9, e9, f9⟩ := (FC.out y).own.fr
              rw [List.length_set] at e9 f9
              simp at e9
              obtain ⟨rfl, rfl⟩ := e9
              exact ⟨some ⟨gm, 0, none⟩, cm, ll.set 0 (r0.set 0 y), (by rw [List.length_set]; rfl), (by rw [List.length_set]; exact f9), (by rw [List.length_set]; exact ⟨by omega, by omega⟩), (fun s hs => by
                rcases List.mem_or_eq_of_mem_set hs with h1 | h1
                · rw [HL.out s h1]; omega
                · rw [h1, List.length_set]; omega), D7.out.kept (keptSet (S := fun b => b = b0) rfl) (by omega) (fun b hb => by omega), K7.out.on (keptSet (S := fun b => b = b0) rfl) fun i h1 h2 => by omega⟩
            · have FC := Lib.hid (HM.out.own.fr)
              go_wp2_with fail
              go_ret
              obtain ⟨a9, c9, e9, f9⟩ := FC.out
              simp at e9
              obtain ⟨rfl, rfl⟩ := e9
              exact ⟨_, _, ll, rfl, f9, ⟨by omega, by omega⟩, (fun r hr => by rw [HL.out r hr]; omega), D.out, K.out⟩
        · obtain ⟨rX, hrX⟩ : ∃ r, ll[0]? = some r := ⟨_, List.getElem?_eq_getElem (by omega)⟩
          have hrXC : rX.length = C := HL.out rX (List.mem_of_getElem? hrX)
          obtain ⟨bX, cX, hvX, cellX, hoX, hbX, hbbX⟩ := HM.out.row hrX (by omega)
          have HOX := Lib.hid hoX
          obtain ⟨kR, hkR⟩ : ∃ k : Nat, ll.length = k + 1 := ⟨ll.length - 1, by omega⟩
          obtain ⟨rL, hrL⟩ : ∃ r, ll[kR]? = some r := ⟨_, List.getElem?_eq_getElem (by omega)⟩
          obtain ⟨vL, hvL⟩ : ∃ v, vs[kR]? = some v := ⟨_, List.getElem?_eq_getElem (by have := HM.out.len; omega)⟩
          have hwR := IntWalk.i64_in ((R : Int) - 1) (by omega)
          have hRk : (R : Int) - 1 = (kR : Int) := by have := HLR.out; omega
          rw [hRk] at hwR
          have hk0 : (0 : Int) ≤ (kR : Int) := by omega
          have hkl : (kR : Int) < (ll.length : Int) := by omega
          have hlN : 0 < ll.length := by omega
          have hlI : (0 : Int) < (ll.length : Int) := by omega
          have BL := Lib.hid (belAl w3 (.cells #[] 3))
          have hgmX := HM.out.blk
          have cellY : (w3.alloc (.cells #[] 3)).cell? ⟨gm, 0, none⟩ = some (.slice (some ⟨bX, 0, none⟩) rX.length cX) := (BL.out.cell (p := ⟨gm, 0, none⟩) hgmX.1).trans cellX
          have HEM := Lib.hid (OwnInts.made w3 w3.heap.size (Nat.le_refl _))
          have HIX : Hid (IntsAt (w3.alloc (.cells #[] 3)) (some ⟨bX, 0, none⟩) rX.length rX) := Lib.hid (by
            obtain ⟨a9, c9, e9, i9⟩ := (OwnInts.below HOX.out BL.out).form
            simp at e9
            rw [e9.1]; exact i9)
          rw [hrXC] at HIX
          have hz3 : w3.heap.size < (w3.alloc (.cells #[] 3)).heap.size := by simp
          have HVL := Lib.hid hvL
          have HRL := Lib.hid hrL
          have HRX := Lib.hid hrX
          have HKR := Lib.hid hkR
          clear cellX hoX HOX hvL hrL hrX hvX hkR
          go_wp2_with (at_builtin; refine appAll rfl (.tmp 46) (.tmp 49) rfl rfl HEM.out rfl HIX.out (by simp; omega) (by omega) ?_; intro v6 w6 h6 k6; have B6 := Lib.hid (BL.out.trans (k6.below (by omega) (fun k h1 h2 => by have := (HEM.out.lt k h2.symm).1; omega))); have H6 := Lib.hid (show OwnInts w6 w3.heap.size v6 rX from h6); obtain ⟨a6, c6, rfl, -⟩ := H6.out.form; have HM6 := Lib.hid (HM.out.below B6.out); have cL := World.ownsRow.cellAt HM6.out.out kR (by omega); rw [HVL.out] at cL; have fL := HM6.out.froz kR; clear h6 k6 cellY)
          obtain ⟨ll2, hll2⟩ : ∃ x, x = ll.set kR rX := ⟨_, rfl⟩
          have hl2 : ll2.length = ll.length := by rw [hll2, List.length_set]
          have HM7 := Lib.hid (HM.out.put HVL.out HRL.out (Kept.of_below B6.out) (ownsRow_base H6.out (by omega)) (.inr fun b hb => (H6.out.lt b hb).1))
          have HL2 : Hid (∀ r ∈ ll2, r.length = C) := Lib.hid (fun r hr => by
            rw [hll2] at hr
            rcases List.mem_or_eq_of_mem_set hr with h1 | h1
            · exact HL.out r h1
            · rw [h1]; exact hrXC)
          rw [← hll2, hrXC] at HM7
          have D7 := Lib.hid ((D.out.below B6.out).kept (keptSet (S := fun b => b = gm) (b := gm) (j := kR) (x := .slice a6 C c6) rfl) (by omega) (fun b hb => by omega))
          have K7 := Lib.hid ((K.out.trans (Kept.of_below (S := fun b => b = g) B6.out)).on (keptSet (S := fun b => b = gm) (b := gm) (j := kR) (x := .slice a6 C c6) rfl) fun i h1 h2 => by omega)
          clear D K HM HM6 H6 B6 BL HEM HIX cL fL HVL HRL HRX HL hll2 hz3 hgmX hbX hbbX
          generalize vs.set kR (.slice a6 C c6) = vs2 at *
          generalize w6.setCell ⟨gm, kR, none⟩ (.slice a6 C c6) = w7 at *
          have HM := HM7
          have HL := HL2
          have D := D7
          have K := K7
          clear HM7 HL2 D7 K7
          refine (HD.out 14 w7 (by decide) D.out).mono ?_
          rintro e w4 ⟨z, hz, rfl, d1, k1⟩
          replace D := Lib.hid d1
          replace K := Lib.hid (K.out.trans k1)
          replace HM := Lib.hid (HM.out.on k1 hgw)
          clear d1 k1
          obtain ⟨r0, hr0⟩ : ∃ r, ll2[0]? = some r := ⟨_, List.getElem?_eq_getElem (by omega)⟩
          have hrC : r0.length = C := HL.out r0 (List.mem_of_getElem? hr0)
          obtain ⟨b0, c0, hv0, cell0, ho0, hb0, hbb0⟩ := HM.out.row hr0 (by omega)
          have HR0 := Lib.hid hr0
          have HV0 := Lib.hid hv0
          have HOR := Lib.hid ho0
          have fz := HM.out.froz 0
          have hgm := HM.out.blk
          have hlen0 : (0 : Int) < (ll.length : Int) := by omega
          have hlenN : 0 < ll.length := by omega
          clear hr0 hv0 ho0
          have KW := Lib.hid (fun (w5 : World) (hk5 : Kept (fun b => b = gm) w4 w5) => K.out.on hk5 fun i h1 h2 => by omega)
          by_cases hz0 : z = 0
          · obtain rfl := hz0
            have hr1 : (1 : Int) ≤ (r0.length : Int) := by omega
            clear hz
            have hcap := rowCap HOR.out
            have FC := Lib.hid (fun (o : Nat) (ho : o = 1 ∨ r0.length - 1 = 0) (c' : Nat) => HM.out.cut HV0.out HR0.out (by omega) o ho c')
            have FL := Lib.hid (cutLen HL.out (by omega) (List.mem_of_getElem? HR0.out))
            rw [hrC] at FC
            go_wp2_with fail
            all_goals
              go_ret
              refine ⟨some ⟨gm, 0, none⟩, cm, ll2.set 0 (r0.drop 1), by rw [List.length_set, hl2]; rfl, FC.out _ (by omega) _, ?_⟩
              · rw [List.length_set]
                exact ⟨⟨by omega, by omega⟩, FL.out, D.out.kept (keptSet (S := fun b => b = gm) rfl) (by omega) (fun b hb => by omega), KW.out _ (keptSet rfl)⟩
          · by_cases hz1 : z = 1
            · obtain rfl := hz1
              clear hz
              have hr1 : (0 : Int) < (r0.length : Int) := by omega
              go_wp2_with fail
              have bd : Below w4.heap.size w4 w4.drew := (Below.refl _ _).drew
              have HMD := Lib.hid (HM.out.below bd)
              have DD := Lib.hid (D.out.below bd)
              have KD := Lib.hid (K.out.trans (Kept.of_below (S := fun b => b = g) bd))
              have s0 : w4.drew.cell? ⟨gm, 0, none⟩ = some (.slice (some ⟨b0, 0, none⟩) r0.length c0) ∧ True := ⟨cell0, trivial⟩
              refine wp_regionZ (fun w' => w'.cell? ⟨gm, 0, none⟩ = some (.slice (some ⟨b0, 0, none⟩) r0.length c0) ∧ True) 7 (by kernel_rfl) ?_
              have hzd : w.heap.size ≤ w4.drew.heap.size := KD.out.size
              have hgd : gm < w4.drew.heap.size := hgm.1
              clear HM D K bd cell0 fz KW
              generalize w4.drew = wd at *
              refine wpAnyZ_takeC (i := 0) (v := ?_) [1, 2, 6, 7] rfl (by kernel_rfl) (by kernel_rfl) (by kernel_rfl) (by kernel_rfl) (by kernel_rfl) (by kernel_rfl) (fun _ _ _ h => h) (s0) (by rfl) ?_ ?_
              rotate_left
              · intro x hx; obtain ⟨u1, u2⟩ := hx; go_simp; try (with_reducible rfl)
              try simp only [Act.put, List.setIfInBounds_toArray, List.set_cons_zero, List.set_cons_succ, List.getElem_toArray, List.getElem_cons_zero, List.getElem_cons_succ]
              refine wpAnyZ_takeC (i := 1) (v := ?_) [2, 6, 7] rfl (by kernel_rfl) (by kernel_rfl) (by kernel_rfl) (by kernel_rfl) (by kernel_rfl) (by kernel_rfl) (fun _ _ _ h => h) (s0) (by rfl) ?_ ?_
              rotate_left
              · intro x hx; obtain ⟨u1, u2⟩ := hx; go_simp; try (with_reducible rfl)
              try simp only [Act.put, List.setIfInBounds_toArray, List.set_cons_zero, List.set_cons_succ, List.getElem_toArray, List.getElem_cons_zero, List.getElem_cons_succ]
              refine wpAnyZ_takeC (i := 2) (v := ?_) [6, 7] rfl (by kernel_rfl) (by kernel_rfl) (by kernel_rfl) (by kernel_rfl) (by kernel_rfl) (by kernel_rfl) (fun _ _ _ h => h) (s0) (by rfl) ?_ ?_
              rotate_left
              · intro x hx; obtain ⟨u1, u2⟩ := hx; go_simp; try (with_reducible rfl)
              try simp only [Act.put, List.setIfInBounds_toArray, List.set_cons_zero, List.set_cons_succ, List.getElem_toArray, List.getElem_cons_zero, List.getElem_cons_succ]
              refine wpAnyZ_takeC (i := 3) (v := ?_) [5, 6, 7] rfl (by kernel_rfl) (by kernel_rfl) (by kernel_rfl) (by kernel_rfl) (by kernel_rfl) (by kernel_rfl) (fun _ _ _ h => h) (s0) (by rfl) ?_ ?_
              rotate_left
              · intro x hx; obtain ⟨u1, u2⟩ := hx; go_simp; try (with_reducible rfl)
              try simp only [Act.put, List.setIfInBounds_toArray, List.set_cons_zero, List.set_cons_succ, List.getElem_toArray, List.getElem_cons_zero, List.getElem_cons_succ]
              have bl := belAl wd (.cells #[.int .i64 8, .int .i64 9, .int .i64 (-9)] 3)
              have sA : (wd.alloc (.cells #[.int .i64 8, .int .i64 9, .int .i64 (-9)] 3)).cell? ⟨gm, 0, none⟩ = some (.slice (some ⟨b0, 0, none⟩) r0.length c0) ∧ True := ⟨(bl.cell (p := ⟨gm, 0, none⟩) hgd).trans s0.1, trivial⟩
              have DA := Lib.hid (DD.out.below bl)
              have HMA := Lib.hid (HMD.out.below bl)
              have KA := Lib.hid (KD.out.trans (Kept.of_below (S := fun b => b = g) bl))
              have HLIT : Hid (OwnInts (wd.alloc (.cells #[.int .i64 8, .int .i64 9, .int .i64 (-9)] 3)) wd.heap.size (.slice (some ⟨wd.heap.size, 0, none⟩) 3 3) [8, 9, -9]) := Lib.hid ⟨by simp, .inr ⟨wd.heap.size, 3, #[.int .i64 8, .int .i64 9, .int .i64 (-9)], rfl, Nat.le_refl _, heap_alloc_new wd _, Nat.le_refl _, by decide, rfl, by simp⟩⟩
              clear bl s0 DD HMD KD
              refine wpAnyZ_step (i := 4) (by kernel_rfl) rfl (by rfl) ?_
              intro KK hKK
              go_simp
              refine hKK.out _ _ (.inr sA) ?_
              clear hKK KK
              try simp only [Act.put, List.setIfInBounds_toArray, List.set_cons_zero, List.set_cons_succ, List.getElem_toArray, List.getElem_cons_zero, List.getElem_cons_succ]
              refine wpAnyZ_step (i := 5) (by kernel_rfl) rfl (by rfl) ?_
              intro KK hKK
              go_simp
              go_at_call 93
              refine (HP.out _ DA.out _ (by omega) _ _ HLIT.out (by simp) (by simp)).mono ?_
              rintro e w7 ⟨y, hy, rfl, d7, k7⟩
              have D7 := Lib.hid d7
              have K7 := Lib.hid (KA.out.trans k7)
              have HM7 := Lib.hid (HMA.out.on k7 hgw)
              have hz7 := k7.size
              clear d7 k7 DA KA HMA hy HLIT
              obtain ⟨b1, c1, hv1, cell1, ho1, hb1, hbb1⟩ := HM7.out.row HR0.out (by omega)
              rw [HV0.out] at hv1
              simp at hv1
              obtain ⟨rfl, rfl⟩ := hv1
              have hrc : 0 < r0.length := by omega
              have hC0 : 0 < C := by omega
              have hC0i : (0 : Int) < (C : Int) := by omega
              have cx : w7.cell? ⟨b0, 0, none⟩ = some (.int .i64 (r0[0]'(by omega))) := ho1.cellAt (List.getElem?_eq_getElem hrc)
              have fx := ho1.frozAt 0
              have FC := Lib.hid (fun y => HM7.out.setIn HV0.out HR0.out 0 y)
              clear ho1 sA
              go_wp2_with fail
              refine hKK.out _ _ (.inr ⟨cell1, trivial⟩) ?_
              clear hKK KK
              try simp only [Act.put, List.setIfInBounds_toArray, List.set_cons_zero, List.set_cons_succ, List.getElem_toArray, List.getElem_cons_zero, List.getElem_cons_succ]
              refine wpAnyZ_step (i := 6) (by kernel_rfl) rfl (by rfl) ?_
              intro KK hKK
              go_simp
              refine hKK.out _ _ (.inr ⟨cell1, trivial⟩) ?_
              clear hKK KK
              try simp only [Act.put, List.setIfInBounds_toArray, List.set_cons_zero, List.set_cons_succ, List.getElem_toArray, List.getElem_cons_zero, List.getElem_cons_succ]
              refine wpAnyZ_step (i := 7) (by kernel_rfl) rfl (by rfl) ?_
              intro KK hKK
              go_simp
              refine hKK.out _ _ (.inl (by kernel_rfl)) ?_
              clear hKK KK
              try simp only [Act.put, List.setIfInBounds_toArray, List.set_cons_zero, List.set_cons_succ, List.getElem_toArray, List.getElem_cons_zero, List.getElem_cons_succ]
              refine wpAnyZ_done (by kernel_rfl) ?_ _
              go_wp2_with fail
              go_ret
              obtain ⟨a9, c9, e9, f9⟩ := (FC.out y).own.fr
              rw [List.length_set] at e9 f9
              simp at e9
              obtain ⟨rfl, -, rfl⟩ := e9
              exact ⟨some ⟨gm, 0, none⟩, cm, ll2.set 0 (r0.set 0 y), (by rw [List.length_set, hl2]; rfl), (by rw [List.length_set]; exact f9), (by rw [List.length_set]; exact ⟨by omega, by omega⟩), (fun s hs => by
                rcases List.mem_or_eq_of_mem_set hs with h1 | h1
                · rw [HL.out s h1]; omega
                · rw [h1, List.length_set]; omega), D7.out.kept (keptSet (S := fun b => b = b0) rfl) (by omega) (fun b hb => by omega), K7.out.on (keptSet (S := fun b => b = b0) rfl) fun i h1 h2 => by omega⟩
            · have FC := Lib.hid (HM.out.own.fr)
              go_wp2_with fail
              go_ret
              obtain ⟨a9, c9, e9, f9⟩ := FC.out
              simp at e9
              obtain ⟨rfl, -, rfl⟩ := e9
              exact ⟨_, _, ll2, by rw [hl2]; rfl, f9, ⟨by omega, by omega⟩, (fun r hr => by rw [HL.out r hr]; omega), D.out, K.out⟩
      · go_wp2_with fail
        refine (HD.out 14 wr (by decide) D.out).mono ?_
        rintro e w4 ⟨z, hz, rfl, d1, k1⟩
        replace D := Lib.hid d1
        replace K := Lib.hid (K.out.trans k1)
        replace HM := Lib.hid (HM.out.on k1 hgw)
        clear d1 k1
        obtain ⟨r0, hr0⟩ : ∃ r, ll[0]? = some r := ⟨_, List.getElem?_eq_getElem (by omega)⟩
        have hrC : r0.length = C := HL.out r0 (List.mem_of_getElem? hr0)
        obtain ⟨b0, c0, hv0, cell0, ho0, hb0, hbb0⟩ := HM.out.row hr0 (by omega)
        have HR0 := Lib.hid hr0
        have HV0 := Lib.hid hv0
        have HOR := Lib.hid ho0
        have fz := HM.out.froz 0
        have hgm := HM.out.blk
        have hlen0 : (0 : Int) < (ll.length : Int) := by omega
        have hlenN : 0 < ll.length := by omega
        clear hr0 hv0 ho0
        have KW := Lib.hid (fun (w5 : World) (hk5 : Kept (fun b => b = gm) w4 w5) => K.out.on hk5 fun i h1 h2 => by omega)
        by_cases hz0 : z = 0
        · obtain rfl := hz0
          have hr1 : (1 : Int) ≤ (r0.length : Int) := by omega
          clear hz
          have hcap := rowCap HOR.out
          have FC := Lib.hid (fun (o : Nat) (ho : o = 1 ∨ r0.length - 1 = 0) (c' : Nat) => HM.out.cut HV0.out HR0.out (by omega) o ho c')
          have FL := Lib.hid (cutLen HL.out (by omega) (List.mem_of_getElem? HR0.out))
          rw [hrC] at FC
          go_wp2_with fail
          all_goals
            go_ret
            refine ⟨some ⟨gm, 0, none⟩, cm, ll.set 0 (r0.drop 1), by rw [List.length_set]; rfl, FC.out _ (by omega) _, ?_⟩
            · rw [List.length_set]
              exact ⟨⟨by omega, by omega⟩, FL.out, D.out.kept (keptSet (S := fun b => b = gm) rfl) (by omega) (fun b hb => by omega), KW.out _ (keptSet rfl)⟩
        · by_cases hz1 : z = 1
          · obtain rfl := hz1
            clear hz
            have hr1 : (0 : Int) < (r0.length : Int) := by omega
            go_wp2_with fail
            have bd : Below w4.heap.size w4 w4.drew := (Below.refl _ _).drew
            have HMD := Lib.hid (HM.out.below bd)
            have DD := Lib.hid (D.out.below bd)
            have KD := Lib.hid (K.out.trans (Kept.of_below (S := fun b => b = g) bd))
            have s0 : w4.drew.cell? ⟨gm, 0, none⟩ = some (.slice (some ⟨b0, 0, none⟩) r0.length c0) ∧ True := ⟨cell0, trivial⟩
            refine wp_regionZ (fun w' => w'.cell? ⟨gm, 0, none⟩ = some (.slice (some ⟨b0, 0, none⟩) r0.length c0) ∧ True) 7 (by kernel_rfl) ?_
            have hzd : w.heap.size ≤ w4.drew.heap.size := KD.out.size
            have hgd : gm < w4.drew.heap.size := hgm.1
            clear HM D K bd cell0 fz KW
            generalize w4.drew = wd at *
            refine wpAnyZ_takeC (i := 0) (v := ?_) [1, 2, 6, 7] rfl (by kernel_rfl) (by kernel_rfl) (by kernel_rfl) (by kernel_rfl) (by kernel_rfl) (by kernel_rfl) (fun _ _ _ h => h) (s0) (by rfl) ?_ ?_
            rotate_left
            · intro x hx; obtain ⟨u1, u2⟩ := hx; go_simp; try (with_reducible rfl)
            try simp only [Act.put, List.setIfInBounds_toArray, List.set_cons_zero, List.set_cons_succ, List.getElem_toArray, List.getElem_cons_zero, List.getElem_cons_succ]
            refine wpAnyZ_takeC (i := 1) (v := ?_) [2, 6, 7] rfl (by kernel_rfl) (by kernel_rfl) (by kernel_rfl) (by kernel_rfl) (by kernel_rfl) (by kernel_rfl) (fun _ _ _ h => h) (s0) (by rfl) ?_ ?_
            rotate_left
            · intro x hx; obtain ⟨u1, u2⟩ := hx; go_simp; try (with_reducible rfl)
            try simp only [Act.put, List.setIfInBounds_toArray, List.set_cons_zero, List.set_cons_succ, List.getElem_toArray, List.getElem_cons_zero, List.getElem_cons_succ]
            refine wpAnyZ_takeC (i := 2) (v := ?_) [6, 7] rfl (by kernel_rfl) (by kernel_rfl) (by kernel_rfl) (by kernel_rfl) (by kernel_rfl) (by kernel_rfl) (fun _ _ _ h => h) (s0) (by rfl) ?_ ?_
            rotate_left
            · intro x hx; obtain ⟨u1, u2⟩ := hx; go_simp; try (with_reducible rfl)
            try simp only [Act.put, List.setIfInBounds_toArray, List.set_cons_zero, List.set_cons_succ, List.getElem_toArray, List.getElem_cons_zero, List.getElem_cons_succ]
            refine wpAnyZ_takeC (i := 3) (v := ?_) [5, 6, 7] rfl (by kernel_rfl) (by kernel_rfl) (by kernel_rfl) (by kernel_rfl) (by kernel_rfl) (by kernel_rfl) (fun _ _ _ h => h) (s0) (by rfl) ?_ ?_
            rotate_left
            · intro x hx; obtain ⟨u1, u2⟩ := hx; go_simp; try (with_reducible rfl)
            try simp only [Act.put, List.setIfInBounds_toArray, List.set_cons_zero, List.set_cons_succ, List.getElem_toArray, List.getElem_cons_zero, List.getElem_cons_succ]
            have bl := belAl wd (.cells #[.int .i64 8, .int .i64 9, .int .i64 (-9)] 3)
            have sA : (wd.alloc (.cells #[.int .i64 8, .int .i64 9, .int .i64 (-9)] 3)).cell? ⟨gm, 0, none⟩ = some (.slice (some ⟨b0, 0, none⟩) r0.length c0) ∧ True := ⟨(bl.cell (p := ⟨gm, 0, none⟩) hgd).trans s0.1, trivial⟩
            have DA := Lib.hid (DD.out.below bl)
            have HMA := Lib.hid (HMD.out.below bl)
            have KA := Lib.hid (KD.out.trans (Kept.of_below (S := fun b => b = g) bl))
            have HLIT : Hid (OwnInts (wd.alloc (.cells #[.int .i64 8, .int .i64 9, .int .i64 (-9)] 3)) wd.heap.size (.slice (some ⟨wd.heap.size, 0, none⟩) 3 3) [8, 9, -9]) := Lib.hid ⟨by simp, .inr ⟨wd.heap.size, 3, #[.int .i64 8, .int .i64 9, .int .i64 (-9)], rfl, Nat.le_refl _, heap_alloc_new wd _, Nat.le_refl _, by decide, rfl, by simp⟩⟩
            clear bl s0 DD HMD KD
            refine wpAnyZ_step (i := 4) (by kernel_rfl) rfl (by rfl) ?_
            intro KK hKK
            go_simp
            refine hKK.out _ _ (.inr sA) ?_
            clear hKK KK
            try simp only [Act.put, List.setIfInBounds_toArray, List.set_cons_zero, List.set_cons_succ, List.getElem_toArray, List.getElem_cons_zero, List.getElem_cons_succ]
            refine wpAnyZ_step (i := 5) (by kernel_rfl) rfl (by rfl) ?_
            intro KK hKK
            go_simp
            go_at_call 93
            refine (HP.out _ DA.out _ (by omega) _ _ HLIT.out (by simp) (by simp)).mono ?_
            rintro e w7 ⟨y, hy, rfl, d7, k7⟩
            have D7 := Lib.hid d7
            have K7 := Lib.hid (KA.out.trans k7)
            have HM7 := Lib.hid (HMA.out.on k7 hgw)
            have hz7 := k7.size
            clear d7 k7 DA KA HMA hy HLIT
            obtain ⟨b1, c1, hv1, cell1, ho1, hb1, hbb1⟩ := HM7.out.row HR0.out (by omega)
            rw [HV0.out] at hv1
            simp at hv1
            obtain ⟨rfl, rfl⟩ := hv1
            have hrc : 0 < r0.length := by omega
            have hC0 : 0 < C := by omega
            have hC0i : (0 : Int) < (C : Int) := by omega
            have cx : w7.cell? ⟨b0, 0, none⟩ = some (.int .i64 (r0[0]'(by omega))) := ho1.cellAt (List.getElem?_eq_getElem hrc)
            have fx := ho1.frozAt 0
            have FC := Lib.hid (fun y => HM7.out.setIn HV0.out HR0.out 0 y)
            clear ho1 sA
            go_wp2_with fail
            refine hKK.out _ _ (.inr ⟨cell1, trivial⟩) ?_
            clear hKK KK
            try simp only [Act.put, List.setIfInBounds_toArray, List.set_cons_zero, List.set_cons_succ, List.getElem_toArray, List.getElem_cons_zero, List.getElem_cons_succ]
            refine wpAnyZ_step (i := 6) (by kernel_rfl) rfl (by rfl) ?_
            intro KK hKK
            go_simp
            refine hKK.out _ _ (.inr ⟨cell1, trivial⟩) ?_
            clear hKK KK
            try simp only [Act.put, List.setIfInBounds_toArray, List.set_cons_zero, List.set_cons_succ, List.getElem_toArray, List.getElem_cons_zero, List.getElem_cons_succ]
            refine wpAnyZ_step (i := 7) (by kernel_rfl) rfl (by rfl) ?_
            intro KK hKK
            go_simp
            refine hKK.out _ _ (.inl (by kernel_rfl)) ?_
            clear hKK KK
            try simp only [Act.put, List.setIfInBounds_toArray, List.set_cons_zero, List.set_cons_succ, List.getElem_toArray, List.getElem_cons_zero, List.getElem_cons_succ]
            refine wpAnyZ_done (by kernel_rfl) ?_ _
            go_wp2_with fail
            go_ret
            obtain ⟨a9, c9, e9, f9⟩ := (FC.out y).own.fr
            rw [List.length_set] at e9 f9
            simp at e9
            obtain ⟨rfl, rfl⟩ := e9
            exact ⟨some ⟨gm, 0, none⟩, cm, ll.set 0 (r0.set 0 y), (by rw [List.length_set]; rfl), (by rw [List.length_set]; exact f9), (by rw [List.length_set]; exact ⟨by omega, by omega⟩), (fun s hs => by
              rcases List.mem_or_eq_of_mem_set hs with h1 | h1
              · rw [HL.out s h1]; omega
              · rw [h1, List.length_set]; omega), D7.out.kept (keptSet (S := fun b => b = b0) rfl) (by omega) (fun b hb => by omega), K7.out.on (keptSet (S := fun b => b = b0) rfl) fun i h1 h2 => by omega⟩
          · have FC := Lib.hid (HM.out.own.fr)
            go_wp2_with fail
            go_ret
            obtain ⟨a9, c9, e9, f9⟩ := FC.out
            simp at e9
            obtain ⟨rfl, rfl⟩ := e9
            exact ⟨_, _, ll, rfl, f9, ⟨by omega, by omega⟩, (fun r hr => by rw [HL.out r hr]; omega), D.out, K.out⟩
end Go.Proofs.Ytfdhbbhfilkafaa
