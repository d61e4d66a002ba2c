/- determinant of the program: by the first row. Condition: at most eight rows. -/
import Derived.Test.YtfbmpkdjhhcnpaaGreatTrP22
import Derived.Test.YtfbmpkdjhhcnpaaGreatTrP02
import Derived.Deep.RegionHeld3
import Derived.Deep.RegionLaw
namespace Go.Proofs.YtfbmpkdjhhcnpaaGreat
open Go.RowKit Gr
set_option maxRecDepth 100000
set_option linter.unusedVariables false
set_option linter.unusedSimpArgs false

theorem ints_src' {W : World} {ao : Option Addr} {n : Nat} {l : List Int} (h : IntsAt W ao n l) : ∀ j u, (l.map (Value.int .i64))[j]? = some u → ∃ b off, ao = some ⟨b, off, none⟩ ∧ W.cell? ⟨b, off + j, none⟩ = some u := by
  intro j u hu
  rw [List.getElem?_map] at hu
  obtain ⟨x, hx, rfl⟩ := Option.map_eq_some_iff.1 hu
  have hj := lt_of_getElem? hx
  obtain ⟨b, off, x', hao, _, hx', hc⟩ := h.2 j (by have := h.1; omega)
  rw [hx] at hx'
  obtain rfl := Option.some.inj hx'
  exact ⟨b, off, hao, hc⟩
/-- append of a whole slice of ints, as one step of a region that draws its order -/
theorem stepIntsAll' {w : World} {ops : Array Oper} {o : Oper} {a : Act} {K : Act → World → Prop} {Q : Exit → Act → World → Prop} {E : Prop} (hg : o.guard = none) (s x : Operand)
    (ho : o.op = .call { callee := .builtin .append, args := #[s, x], argTypes := #[35, 35] }) {base : Nat} {v : Value} {l : List Int} (hs : a.eval s = v) (hown : OwnInts w base v l)
    {am : Option Addr} {m c : Nat} {r : List Int} (hx : a.eval x = .slice am m c) (hi : IntsAt w am m r) (hl : l.length + m < 1099511627776) (hbase : base ≤ w.heap.size)
    (hK : ∀ v' w', OwnInts w' base v' (l ++ r) → Kept (fun k => some k = v.ownBlock) w w' → (v'.ownBlock = v.ownBlock ∨ v'.ownBlock = some w.heap.size) → K (a.put o.dst v') w') :
    if Region.wanted o (yielded ops a.tmps) = true then Oper.wp Tryz.prog o a w K Q else E := by
  obtain ⟨i0, hii, hz0, hz1, hz2⟩ := info_parts infoInt
  have hrm := hi.1
  refine step_append_whole _ hg s x 35 ho base 3 i0 _ 1 8 Tryz.underlying35 hii hz0 hz1 hz2 rfl (by decide) v l.length (l.map (Value.int .i64)) hs hown am m c (r.map (Value.int .i64)) hx (by simp; omega) (ints_src' hi) (by intro u hu; obtain ⟨x, _, rfl⟩ := List.mem_map.1 hu; rfl) (by unfold maxLen; omega) (by omega) hbase ?_
  intro v' w' h1 h2 h3
  refine hK v' w' ?_ (Kept.of_grown h2) h3
  unfold OwnInts
  rw [List.length_append, List.map_append, hrm]
  exact h1
/-- append of one row, as one step of a region that draws its order -/
theorem stepRow {w : World} {ops : Array Oper} {o : Oper} {a : Act} {K : Act → World → Prop} {Q : Exit → Act → World → Prop} {E : Prop} (hg : o.guard = none) (s x : Operand)
    (ho : o.op = .call { callee := .builtin .append, args := #[s, x], argTypes := #[29, 29] }) {base : Nat} {v : Value} {ll : List (List Int)} (hs : a.eval s = v) {u : Value} {r : List Int} (hu : OwnInts w base u r)
    {W0 : World} {vs : List Value} (hW0 : Below W0.heap.size W0 w) (hv : W0.ownsRow base 35 1 v ll.length vs) (hr : IRows W0 base vs ll) (hap : ∀ b, u.ownBlock = some b → W0.heap.size ≤ b)
    (hx : a.eval x = .slice (some ⟨w.heap.size, 0, none⟩) 1 1) (hl : ll.length < 1099511627776) (hbase : base ≤ w.heap.size)
    (hK : ∀ v' w', OwnIntss w' base v' (ll ++ [r]) → Kept (fun k => some k = v.ownBlock) w w' → K (a.put o.dst v') w') :
    if Region.wanted o (yielded ops a.tmps) = true then Oper.wp Tryz.prog o a (w.alloc (.cells #[u] 35)) K Q else E := by
  have hv1 : w.ownsRow base 35 1 v ll.length vs := Below.ownsRow hW0 hv
  have hr1 : IRows w base vs ll := hr.below hW0
  obtain ⟨i0, hi, hz0, hz1, hz2⟩ := info_parts infoInts
  refine step_append_whole _ hg s x 29 ho base 35 i0 (.slice none 0 0) 1 24 Tryz.underlying29 hi hz0 hz1 hz2 rfl (by decide) v ll.length vs hs (World.ownsRow.alloc hv1 _) (some ⟨w.heap.size, 0, none⟩) 1 1 [u] hx rfl ?_ ?_ (by unfold maxLen; omega) (by omega) (by simp; omega) ?_
  · intro j q hq
    have hj : j = 0 := by have := lt_of_getElem? hq; simp at this; omega
    subst hj
    simp at hq
    subst hq
    exact ⟨w.heap.size, 0, rfl, by simp [World.cell?_alloc_new]⟩
  · intro q hq
    simp at hq
    subst hq
    rcases hu.2 with ⟨rfl, _⟩ | ⟨g, c, cur, rfl, _⟩ <;> rfl
  · intro v' w' h1 h2 _
    have hk : Kept (fun k => some k = v.ownBlock) w w' := (Kept.of_below ((Below.refl _ _).alloc (Nat.le_refl _) _)).trans ⟨h2.os, h2.tape, h2.output, h2.size, fun k hk hs => h2.block k hk hs⟩
    refine hK v' w' ⟨vs ++ [u], by rw [List.length_append]; exact h1, ?_⟩ hk
    refine (hr1.outer hv1 hk).snoc (hu.outer hv1 hk) fun q hq b h3 h4 => ?_
    have h5 := hap b h4
    have h6 := (hr.lt q hq b h3).2
    omega

/-- rows of at least one number that lie somewhere, with their room -/
def RowsC (W : World) (a : Option Addr) (n : Nat) (ll : List (List Int)) : Prop :=
  ll.length = n ∧ ∀ k, k < n → ∃ b off br or' cr r, a = some ⟨b, off, none⟩ ∧ b < W.heap.size ∧ ll[k]? = some r ∧ W.cell? ⟨b, off + k, none⟩ = some (.slice (some ⟨br, or', none⟩) r.length cr) ∧ IntsAt W (some ⟨br, or', none⟩) r.length r ∧ r.length ≤ cr
theorem RowsC.below {W W' : World} {a : Option Addr} {n : Nat} {ll : List (List Int)} (h : RowsC W a n ll) (hb : Below W.heap.size W W') : RowsC W' a n ll :=
  ⟨h.1, fun k hk => by
    obtain ⟨b, off, br, or', cr, r, ha, hbl, hr, hc, hi, hcr⟩ := h.2 k hk
    exact ⟨b, off, br, or', cr, r, ha, Nat.lt_of_lt_of_le hbl hb.size, hr, (hb.cell (p := ⟨b, off + k, none⟩) hbl).trans hc, hi.below hb, hcr⟩⟩
theorem OwnIntss.rowsC {W : World} {base : Nat} {v : Value} {ll : List (List Int)} (h : OwnIntss W base v ll) (hne : ∀ r ∈ ll, 0 < r.length) : ∃ a cap, v = .slice a ll.length cap ∧ ll.length ≤ cap ∧ RowsC W a ll.length ll := by
  obtain ⟨vs, ho, hr⟩ := h
  have ho2 := ho
  rcases ho.2 with ⟨rfl, h0⟩ | ⟨g, cap, cur, rfl, hb, hg, hnc, hcm, hcs, htake⟩
  · exact ⟨none, 0, by rw [h0], by omega, rfl, fun k hk => by omega⟩
  · refine ⟨_, cap, rfl, hnc, rfl, fun k hk => ?_⟩
    obtain ⟨u, r, hu, hrr, hor⟩ := hr.get hk
    have hc := World.ownsRow.cellAt (w := W) (base := base) ho2 k (by omega)
    have hrl := hne r (List.mem_of_getElem? hrr)
    obtain ⟨a1, c1, he1, hi1⟩ := hor.form
    rcases hor.2 with ⟨e1, h1⟩ | ⟨b, cr, cur', e1, _, _, hc1, _⟩
    · omega
    · rw [e1] at he1
      simp only [Value.slice.injEq, true_and] at he1
      obtain ⟨rfl, rfl⟩ := he1
      exact ⟨g, 0, b, 0, cr, r, rfl, (World.ownsRow.lt ho2 g rfl).2, hrr, by rw [Nat.zero_add, hc, hu, e1], hi1, hc1⟩
theorem IntsAt.takeN' {W : World} {a : Option Addr} {n m : Nat} {r : List Int} (h : IntsAt W a n r) (hm : m ≤ n) : IntsAt W a m (r.take m) :=
  ⟨by rw [List.length_take, h.1]; omega, fun k hk => by
    obtain ⟨b, off, x, ha, hb, hx, hc⟩ := h.2 k (by omega)
    exact ⟨b, off, x, ha, hb, by rw [List.getElem?_take_of_lt hk]; exact hx, hc⟩⟩
theorem IntsAt.dropN {W : World} {b off n m : Nat} {r : List Int} (h : IntsAt W (some ⟨b, off, none⟩) n r) (hm : m ≤ n) : IntsAt W (some ⟨b, off + m, none⟩) (n - m) (r.drop m) :=
  ⟨by rw [List.length_drop, h.1], fun k hk => by
    obtain ⟨b', off', x, ha, hb, hx, hc⟩ := h.2 (m + k) (by omega)
    simp only [Option.some.injEq, Addr.mk.injEq, and_true] at ha
    obtain ⟨rfl, rfl⟩ := ha
    exact ⟨b, off + m, x, rfl, hb, by rw [List.getElem?_drop]; exact hx, by rw [Nat.add_assoc]; exact hc⟩⟩
def lesM (M : List (List Int)) (j k : Nat) : List (List Int) := (M.tail.take k).map fun r => r.eraseIdx j
theorem lesM_succ {M : List (List Int)} {j k : Nat} {r : List Int} (h : M[k + 1]? = some r) : lesM M j (k + 1) = lesM M j k ++ [r.take j ++ r.drop (j + 1)] := by
  have h2 : M.tail[k]? = some r := by rw [List.getElem?_tail]; exact h
  unfold lesM; rw [take_succ_of h2]; simp [List.eraseIdx_eq_take_drop_succ]
def trmM (M : List (List Int)) (n j : Nat) : Int := sg j * ((M.headD [])[j]?.getD 0) * detM n (M.tail.map fun r => r.eraseIdx j)
theorem detM_dsum (M : List (List Int)) (n : Nat) : detM (n + 1) M = dsum (trmM M n) (n + 1) := rfl

set_option maxHeartbeats 8000000 in
theorem det_at : ∀ (n : Nat), n ≤ 8 → ∀ (M : List (List Int)) (W : World) (a : Option Addr) (cap : Nat), M.length = n → n ≤ cap → (∀ r ∈ M, r.length = n) → RowsC W a n M →
    Calls Tryz.prog 62 #[.slice a n cap] W fun e w' => e = .returned (.int .i64 (wrap64 (detM n M))) ∧ Below W.heap.size W w'
  | 0, _, M, W, a, cap, _, _, _, _ => by
    go_enter Tryz.func62, Tryz.ntmps62
    go_wp2_with fail
    go_ret
    exact ⟨by rw [show wrap64 (detM 0 M) = 1 from (by unfold wrap64; omega : wrap64 1 = 1)]; rfl, Below.refl _ _⟩
  | n + 1, hn8, M, W, a, cap, hML, hcap, hr, hi => by
    have IH := Lib.hid (det_at n (by omega))
    have HDD := Lib.hid (detM_dsum M n)
    generalize hN : n + 1 = N at *
    have HI := Lib.hid hi
    have HR := Lib.hid hr
    clear hi hr
    have hN1 : 1 ≤ N := by omega
    have hnz : ((N : Int) == 0) = false := by rw [beq_eq_false_iff_ne]; omega
    have hnz2 : (N == 0) = false := by rw [beq_eq_false_iff_ne]; omega
    have hn2 : N - 1 = n := by omega
    have hN1i : (1 : Int) ≤ (N : Int) := by omega
    have hcapi : (N : Int) ≤ (cap : Int) := by omega
    have hcap1 : (1 : Int) ≤ (cap : Int) := by omega
    have hN0i : (0 : Int) < (N : Int) := by omega
    have hN0 : 0 < N := by omega
    have hnN : n + 1 ≤ N := by omega
    have hNn : N ≤ n + 1 := by omega
    obtain ⟨b, off, br, or', cr, r, rfl, hbb, hr0, hc0, hi0, hcr⟩ := HI.out.2 0 (by omega)
    rw [Nat.add_zero] at hc0
    have hrl := HR.out r (List.mem_of_getElem? hr0)
    rw [hrl] at hc0 hi0 hcr
    have HI0 := Lib.hid hi0
    have HH : Hid (M.headD [] = r) := Lib.hid (by
      cases M with
      | nil => simp at hr0
      | cons y t => simpa using hr0)
    have HNN := Lib.hid hN
    clear hN hi0 hr0 hML
    go_enter Tryz.func62, Tryz.ntmps62
    go_wp2_with fail
    go_loopw [3, 16] (fun dd cv w9 => ∃ c : Nat, c ≤ N ∧ cv = .int .i64 c ∧ dd = .int .i64 (wrap64 (dsum (trmM M n) c)) ∧ Below W.heap.size W w9) (fun _ cv _ => N - (intOf cv).toNat)
    case atStart => exact ⟨0, Nat.zero_le _, rfl, by rw [show wrap64 (dsum (trmM M n) 0) = 0 from (by unfold wrap64; omega : wrap64 0 = 0)], Below.refl _ _⟩
    case round =>
      obtain ⟨c, hc, rfl, rfl, hb⟩ := hrel
      have hbz := hb.size
      generalize hD : wrap64 (dsum (trmM M n) c) = D
      have HD := Lib.hid hD
      clear hD
      by_cases hlt : c < N
      · have hci : (c : Int) < (N : Int) := by omega
        have hc00 : (0 : Int) ≤ (c : Int) := by omega
        obtain ⟨b', o', x, hab, hbr, hx, hcx⟩ := (HI0.out.below hb).2 c hlt
        simp only [Option.some.injEq, Addr.mk.injEq, and_true] at hab
        obtain ⟨rfl, rfl⟩ := hab
        have hc0w := ((bcell hb).1 _ _ hbb).trans hc0
        have HX : Hid (((M.headD [])[c]?.getD 0) = x) := Lib.hid (by rw [HH.out]; simp [hx])
        clear hx
        cases hx0 : (x == 0)
        · by_cases hcap2 : cap = 1
          · subst hcap2
            have hN1x : (N : Int) ≤ 1 := by omega
            have hN1y : N ≤ 1 := by omega
            clear hcapi hcap1
            have hr0 := made_ints2 wr
            have hrb : Below wr.heap.size wr (wr.alloc (.cells #[] 35)) := (Below.refl _ _).alloc (Nat.le_refl _) _
            have HR0 := Lib.hid hr0
            clear hr0
            go_wp2_with fail
            obtain ⟨wo, hwo⟩ : ∃ wo, wo = wr := ⟨_, rfl⟩
            subst hwo
            generalize wo.alloc (.cells #[] 35) = w3 at *
            go_loopw [6, 27] (fun o kv w9 => ∃ k : Nat, k ≤ n ∧ kv = .int .i64 k ∧ OwnIntss w9 wo.heap.size o (lesM M c k) ∧ Below wo.heap.size wo w9) (fun _ kv _ => n - (intOf kv).toNat)
            case atStart => exact ⟨0, Nat.zero_le _, rfl, by unfold lesM; simpa using HR0.out, hrb⟩
            case round =>
              clear hrb HR0
              obtain ⟨k, hk, rfl, ho, hb3⟩ := hrel
              have HO := Lib.hid ho
              clear ho
              have hb3z := hb3.size
              by_cases hkl : k < n
              · exact absurd hkl (by omega)
              · obtain rfl : k = n := by omega
                have hlm : lesM M c k = M.tail.map fun r => r.eraseIdx c := by unfold lesM; rw [List.take_of_length_le (by rw [List.length_tail, HI.out.1]; omega)]
                have ho2 := HO.out
                rw [hlm] at ho2
                have hll : (M.tail.map fun r => r.eraseIdx c).length = k := by rw [List.length_map, List.length_tail, HI.out.1]; omega
                have hrows : ∀ r3 ∈ (M.tail.map fun r => r.eraseIdx c), r3.length = k := fun r3 h3 => by
                  obtain ⟨r4, hr4, rfl⟩ := List.mem_map.1 h3
                  have h1 := HR.out r4 (List.mem_of_mem_tail hr4)
                  rw [List.length_eraseIdx_of_lt (by omega)]; omega
                obtain ⟨al, cl, hev, hcl, hrc⟩ := ho2.rowsC (fun r3 h3 => by
                  have h5 := hrows r3 h3
                  have h6 : 0 < (M.tail.map fun r => r.eraseIdx c).length := List.length_pos_of_mem h3
                  omega)
                rw [hll] at hev hcl hrc
                subst hev
                have HCC : Hid (Calls Tryz.prog 62 #[.slice al k cl] wr fun e w' => e = .returned (.int .i64 (wrap64 (detM k (M.tail.map fun r => r.eraseIdx c)))) ∧ Below wr.heap.size wr w') := Lib.hid (IH.out _ wr al cl hll hcl hrows hrc)
                have HTM : Hid (trmM M k c = sg c * x * detM k (M.tail.map fun r => r.eraseIdx c)) := Lib.hid (by unfold trmM; rw [HX.out])
                clear hlm ho2 hll hrows hrc hcl
                generalize detM k (M.tail.map fun r => r.eraseIdx c) = Z at *
                obtain ⟨z, hz⟩ : ∃ z, z = wrap64 Z := ⟨_, rfl⟩
                rw [← hz] at HCC
                have HZZ := Lib.hid hz
                clear hz
                have hbe0 := hb.step hb3
                by_cases hod : c % 2 = 1
                · have HSG := Lib.hid (sg_odd hod)
                  have hmd : Int.tmod (c : Int) 2 = 1 := by
                    rw [show Int.tmod (c : Int) 2 = ((c % 2 : Nat) : Int) from rfl, hod]; rfl
                  clear hod
                  go_wp2_with fail
                  refine HCC.out.mono ?_
                  rintro e w8 ⟨rfl, b8⟩
                  go_wp2_with fail
                  go_roundw
                  case rel => exact ⟨c + 1, by omega, by go_num, by show Value.int _ _ = Value.int _ _; rw [show dsum (trmM M k) (c + 1) = dsum (trmM M k) c + trmM M k c from rfl, HTM.out, HSG.out, ← wrap_neg2, HD.out, HZZ.out], hbe0.step b8⟩
                  case measure => simp [intOf]; omega
                · have HSG := Lib.hid (sg_even hod)
                  have hmd : Int.tmod (c : Int) 2 = 0 := by
                    rw [show Int.tmod (c : Int) 2 = ((c % 2 : Nat) : Int) from rfl, show c % 2 = 0 by omega]; rfl
                  clear hod
                  go_wp2_with fail
                  refine HCC.out.mono ?_
                  rintro e w8 ⟨rfl, b8⟩
                  go_wp2_with fail
                  go_roundw
                  case rel => exact ⟨c + 1, by omega, by go_num, by show Value.int _ _ = Value.int _ _; rw [show dsum (trmM M k) (c + 1) = dsum (trmM M k) c + trmM M k c from rfl, HTM.out, HSG.out, ← wrap_pos, HD.out, HZZ.out], hbe0.step b8⟩
                  case measure => simp [intOf]; omega
          · have hcap2i : ¬ (cap : Int) = 1 := by omega
            have hr0 := made_ints2 wr
            have hrb : Below wr.heap.size wr (wr.alloc (.cells #[] 35)) := (Below.refl _ _).alloc (Nat.le_refl _) _
            have HR0 := Lib.hid hr0
            clear hr0
            go_wp2_with fail
            obtain ⟨wo, hwo⟩ : ∃ wo, wo = wr := ⟨_, rfl⟩
            subst hwo
            generalize wo.alloc (.cells #[] 35) = w3 at *
            go_loopw [6, 27] (fun o kv w9 => ∃ k : Nat, k ≤ n ∧ kv = .int .i64 k ∧ OwnIntss w9 wo.heap.size o (lesM M c k) ∧ Below wo.heap.size wo w9) (fun _ kv _ => n - (intOf kv).toNat)
            case atStart => exact ⟨0, Nat.zero_le _, rfl, by unfold lesM; simpa using HR0.out, hrb⟩
            case round =>
              clear hrb HR0
              obtain ⟨k, hk, rfl, ho, hb3⟩ := hrel
              have HO := Lib.hid ho
              clear ho
              have hb3z := hb3.size
              by_cases hkl : k < n
              · have hkli : (k : Int) < (n : Int) := by omega
                have hk0 : (0 : Int) ≤ (k : Int) := by omega
                obtain ⟨b2, off2, br2, or2, cr2, r2, hab, hbb2, hr2, hc2, hi2, hcr2⟩ := (HI.out.below (hb.step hb3)).2 (k + 1) (by omega)
                simp only [Option.some.injEq, Addr.mk.injEq, and_true] at hab
                obtain ⟨rfl, rfl⟩ := hab
                rw [show off + (k + 1) = off + 1 + k by omega] at hc2
                have hrl2 := HR.out r2 (List.mem_of_getElem? hr2)
                have HLS := Lib.hid (lesM_succ (j := c) hr2)
                rw [hrl2] at hc2 hi2 hcr2
                have HTK := Lib.hid (hi2.takeN' (show c ≤ N by omega))
                have hL1 : (r2.take c).length = c := by rw [List.length_take, hrl2]; omega
                have HL1 := Lib.hid hL1
                have hcri : (c : Int) ≤ (cr2 : Int) := by omega
                have hcrn : c ≤ cr2 := by omega
                have hcr0 : ¬ cr2 = 0 := by omega
                have hc1n : c + 1 ≤ N := by omega
                have hc1i : (c : Int) + 1 ≤ (N : Int) := by omega
                have hc1c : (c : Int) + 1 ≤ (cr2 : Int) := by omega
                have hc1d : c + 1 ≤ cr2 := by omega
                have hc10 : (0 : Int) ≤ (c : Int) + 1 := by omega
                have hwc := IntWalk.i64_in ((c : Int) + 1) (by omega)
                have hS1 : ∀ w, (Instr.slice 35 (.slice (some ⟨br2, or2, none⟩) N cr2) none (some (.int .i64 (c : Int))) none).run Tryz.prog w = .ok (.slice (some ⟨br2, or2, none⟩) c cr2) w := fun w => by go_simp
                obtain ⟨vs, hvs, hrs⟩ := HO.out
                have HV := Lib.hid hvs
                have HVR := Lib.hid hrs
                have HLK : Hid ((lesM M c k).length < 1099511627776) := Lib.hid (by unfold lesM; rw [List.length_map, List.length_take]; omega)
                clear hvs hrs hr2 hL1
                have hbd : Below wr.heap.size wr wr.drew := (Below.refl _ _).drew
                by_cases hcc : cr2 = c + 1
                · subst hcc
                  have hNc : N - (c + 1) = 0 := by omega
                  have HTD : Hid (IntsAt wr (some ⟨br2, or2, none⟩) 0 (r2.drop (c + 1))) := Lib.hid (by
                    rw [List.drop_of_length_le (by omega)]; exact IntsAt.nil _ _)
                  have HRD : Hid ((r2.drop (c + 1)).length = N - (c + 1)) := Lib.hid (by rw [List.length_drop, hrl2])
                  have hS2 : ∀ w, (Instr.slice 35 (.slice (some ⟨br2, or2, none⟩) N (c + 1)) (some (.int .i64 ((c : Int) + 1))) none none).run Tryz.prog w = .ok (.slice (some ⟨br2, or2, none⟩) 0 0) w := fun w => by go_simp
                  clear hi2 hNc hrl2
                  go_wp2_with fail
                  have tk1 := True.intro
                  have tk2 := True.intro
                  have tk3 := True.intro
                  go_region_held3 (fun _ => True) (exact True.intro)
                    (first
                      | (clear tk1; go_at_call 111; refine (copyInts_any _ _ _ _ _ (HTK.out.below hbd) (by omega)).mono ?_; rintro e w5 ⟨v5, rfl, h5, b5⟩; have b50 : Below wr.heap.size wr w5 := hbd.step b5; have H5 : Hid (OwnInts w5 wr.heap.size v5 (r2.take c)) := Lib.hid h5; have hz5 := b50.size; clear h5 b5)
                      | (clear tk2; refine stepIntsAll' (by rfl) (.tmp 35) (.tmp 39) (by rfl) (by rfl) H5.out (by rfl) (HTD.out.below b50) (by rw [HL1.out]; omega) hz5 ?_; intro v6 w6 h6 k6 a6; have b6 : Below wr.heap.size wr w6 := b50.trans (k6.setOwn H5.out (Nat.le_refl _) hz5); obtain ⟨a9, c9, hv6, hi9⟩ := h6.form; clear hi9; generalize (r2.take c ++ r2.drop (c + 1)).length = Ln at hv6; subst hv6; have H6 := Lib.hid h6; clear h6; have hz6 := b6.size)
                      | (clear tk3; refine stepRow (by rfl) (.tmp 31) (.tmp 41) (by rfl) (by rfl) (ownsRow_base H6.out hb3z) b6 HV.out HVR.out (fun q hq => (H6.out.lt q hq).1) (by rfl) HLK.out (by omega) ?_; intro v7 w7 h7 k7; have H7 := Lib.hid h7; have b7 : Below wo.heap.size wo w7 := hb3.trans ((b6.mono hb3z).trans (k7.below (by omega) fun z h1 h2 => by have := (World.ownsRow.lt HV.out z h2.symm).1; omega)); clear h7)
                      | fail)
                  all_goals
                    go_wp2_with fail
                    go_roundw
                    case rel => exact ⟨k + 1, by omega, by go_num, by rw [HLS.out]; exact H7.out, b7⟩
                    case measure => simp [intOf]; omega
                · have hcci : ¬ (cr2 : Int) = (c : Int) + 1 := by omega
                  have HTD := Lib.hid (hi2.dropN (show c + 1 ≤ N by omega))
                  have HRD : Hid ((r2.drop (c + 1)).length = N - (c + 1)) := Lib.hid (by rw [List.length_drop, hrl2])
                  have hS2 : ∀ w, (Instr.slice 35 (.slice (some ⟨br2, or2, none⟩) N cr2) (some (.int .i64 ((c : Int) + 1))) none none).run Tryz.prog w = .ok (.slice (some ⟨br2, or2 + (c + 1), none⟩) (N - (c + 1)) (cr2 - (c + 1))) w := fun w => by go_simp
                  clear hi2 hrl2
                  go_wp2_with fail
                  have tk1 := True.intro
                  have tk2 := True.intro
                  have tk3 := True.intro
                  go_region_held3 (fun _ => True) (exact True.intro)
                    (first
                      | (clear tk1; go_at_call 111; refine (copyInts_any _ _ _ _ _ (HTK.out.below hbd) (by omega)).mono ?_; rintro e w5 ⟨v5, rfl, h5, b5⟩; have b50 : Below wr.heap.size wr w5 := hbd.step b5; have H5 : Hid (OwnInts w5 wr.heap.size v5 (r2.take c)) := Lib.hid h5; have hz5 := b50.size; clear h5 b5)
                      | (clear tk2; refine stepIntsAll' (by rfl) (.tmp 35) (.tmp 39) (by rfl) (by rfl) H5.out (by rfl) (HTD.out.below b50) (by rw [HL1.out]; omega) hz5 ?_; intro v6 w6 h6 k6 a6; have b6 : Below wr.heap.size wr w6 := b50.trans (k6.setOwn H5.out (Nat.le_refl _) hz5); obtain ⟨a9, c9, hv6, hi9⟩ := h6.form; clear hi9; generalize (r2.take c ++ r2.drop (c + 1)).length = Ln at hv6; subst hv6; have H6 := Lib.hid h6; clear h6; have hz6 := b6.size)
                      | (clear tk3; refine stepRow (by rfl) (.tmp 31) (.tmp 41) (by rfl) (by rfl) (ownsRow_base H6.out hb3z) b6 HV.out HVR.out (fun q hq => (H6.out.lt q hq).1) (by rfl) HLK.out (by omega) ?_; intro v7 w7 h7 k7; have H7 := Lib.hid h7; have b7 : Below wo.heap.size wo w7 := hb3.trans ((b6.mono hb3z).trans (k7.below (by omega) fun z h1 h2 => by have := (World.ownsRow.lt HV.out z h2.symm).1; omega)); clear h7)
                      | fail)
                  all_goals
                    go_wp2_with fail
                    go_roundw
                    case rel => exact ⟨k + 1, by omega, by go_num, by rw [HLS.out]; exact H7.out, b7⟩
                    case measure => simp [intOf]; omega
              · obtain rfl : k = n := by omega
                have hlm : lesM M c k = M.tail.map fun r => r.eraseIdx c := by unfold lesM; rw [List.take_of_length_le (by rw [List.length_tail, HI.out.1]; omega)]
                have ho2 := HO.out
                rw [hlm] at ho2
                have hll : (M.tail.map fun r => r.eraseIdx c).length = k := by rw [List.length_map, List.length_tail, HI.out.1]; omega
                have hrows : ∀ r3 ∈ (M.tail.map fun r => r.eraseIdx c), r3.length = k := fun r3 h3 => by
                  obtain ⟨r4, hr4, rfl⟩ := List.mem_map.1 h3
                  have h1 := HR.out r4 (List.mem_of_mem_tail hr4)
                  rw [List.length_eraseIdx_of_lt (by omega)]; omega
                obtain ⟨al, cl, hev, hcl, hrc⟩ := ho2.rowsC (fun r3 h3 => by
                  have h5 := hrows r3 h3
                  have h6 : 0 < (M.tail.map fun r => r.eraseIdx c).length := List.length_pos_of_mem h3
                  omega)
                rw [hll] at hev hcl hrc
                subst hev
                have HCC : Hid (Calls Tryz.prog 62 #[.slice al k cl] wr fun e w' => e = .returned (.int .i64 (wrap64 (detM k (M.tail.map fun r => r.eraseIdx c)))) ∧ Below wr.heap.size wr w') := Lib.hid (IH.out _ wr al cl hll hcl hrows hrc)
                have HTM : Hid (trmM M k c = sg c * x * detM k (M.tail.map fun r => r.eraseIdx c)) := Lib.hid (by unfold trmM; rw [HX.out])
                clear hlm ho2 hll hrows hrc hcl
                generalize detM k (M.tail.map fun r => r.eraseIdx c) = Z at *
                obtain ⟨z, hz⟩ : ∃ z, z = wrap64 Z := ⟨_, rfl⟩
                rw [← hz] at HCC
                have HZZ := Lib.hid hz
                clear hz
                have hbe0 := hb.step hb3
                by_cases hod : c % 2 = 1
                · have HSG := Lib.hid (sg_odd hod)
                  have hmd : Int.tmod (c : Int) 2 = 1 := by
                    rw [show Int.tmod (c : Int) 2 = ((c % 2 : Nat) : Int) from rfl, hod]; rfl
                  clear hod
                  go_wp2_with fail
                  refine HCC.out.mono ?_
                  rintro e w8 ⟨rfl, b8⟩
                  go_wp2_with fail
                  go_roundw
                  case rel => exact ⟨c + 1, by omega, by go_num, by show Value.int _ _ = Value.int _ _; rw [show dsum (trmM M k) (c + 1) = dsum (trmM M k) c + trmM M k c from rfl, HTM.out, HSG.out, ← wrap_neg2, HD.out, HZZ.out], hbe0.step b8⟩
                  case measure => simp [intOf]; omega
                · have HSG := Lib.hid (sg_even hod)
                  have hmd : Int.tmod (c : Int) 2 = 0 := by
                    rw [show Int.tmod (c : Int) 2 = ((c % 2 : Nat) : Int) from rfl, show c % 2 = 0 by omega]; rfl
                  clear hod
                  go_wp2_with fail
                  refine HCC.out.mono ?_
                  rintro e w8 ⟨rfl, b8⟩
                  go_wp2_with fail
                  go_roundw
                  case rel => exact ⟨c + 1, by omega, by go_num, by show Value.int _ _ = Value.int _ _; rw [show dsum (trmM M k) (c + 1) = dsum (trmM M k) c + trmM M k c from rfl, HTM.out, HSG.out, ← wrap_pos, HD.out, HZZ.out], hbe0.step b8⟩
                  case measure => simp [intOf]; omega
        · have HX0 := Lib.hid (eq_of_beq hx0)
          go_wp2_with fail
          go_roundw
          case rel => exact ⟨c + 1, by omega, by go_num, by rw [← HD.out, show dsum (trmM M n) (c + 1) = dsum (trmM M n) c + trmM M n c from rfl, show trmM M n c = 0 by unfold trmM; rw [HX.out, HX0.out]; simp, Int.add_zero], hb⟩
          case measure => simp [intOf]; omega
      · obtain rfl : c = N := by omega
        go_wp2_with fail
        go_ret
        exact ⟨by rw [HDD.out, HD.out]; rfl, hb⟩
end Go.Proofs.YtfbmpkdjhhcnpaaGreat

