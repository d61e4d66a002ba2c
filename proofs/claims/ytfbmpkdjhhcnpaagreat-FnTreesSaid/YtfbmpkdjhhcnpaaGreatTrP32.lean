/- The program's search for packed trees (the closure 'fill' of PackTrees). No condition but sizes. -/
import Derived.Test.YtfbmpkdjhhcnpaaGreatTrP31
import Derived.Test.YtfbmpkdjhhcnpaaGreatTrP04
import Derived.Test.YtfbmpkdjhhcnpaaGreatTrP29
import Derived.OwnWalk
import Derived.Test.YtfbmpkdjhhcnpaaGreatTrP25
import Derived.Lib.MinMax
namespace Go.Proofs.YtfbmpkdjhhcnpaaGreat
open Go.RowKit
set_option maxRecDepth 100000
set_option linter.unusedVariables false
set_option linter.unusedSimpArgs false
theorem cutP {b n j c : Nat} (hn : j ≤ n) (hc : n ≤ c) (hm : c ≤ 9223372036854775807) (w : World) : (Instr.slice 24 (.slice (some ⟨b, 0, none⟩) n c) none (some (.int .i64 (j : Int))) none).run Tryz.prog w = .ok (.slice (some ⟨b, 0, none⟩) j c) w := by
  go_simp
  intro h
  omega
theorem cutI {b n j c : Nat} (hn : j ≤ n) (hc : n ≤ c) (hm : c ≤ 9223372036854775807) (w : World) : (Instr.slice 35 (.slice (some ⟨b, 0, none⟩) n c) none (some (.int .i64 (j : Int))) none).run Tryz.prog w = .ok (.slice (some ⟨b, 0, none⟩) j c) w := by
  go_simp
  intro h
  omega
/-- a row that is not empty lies in a block -/
theorem rowBlk {w : World} {base s n : Nat} {e : TypeId} {v : Value} {xs : List Value} (h : w.ownsRow base e s v n xs) (hn : 0 < n) : ∃ b c, v = .slice (some ⟨b, 0, none⟩) n c ∧ n ≤ c ∧ c ≤ 9223372036854775807 ∧ base ≤ b ∧ b < w.heap.size := by
  rcases h.2 with ⟨_, h0⟩ | ⟨b, c, cur, rfl, hb, hg, h1, h2, _⟩
  · omega
  · exact ⟨b, c, rfl, h1, by have : maxLen = 9223372036854775807 := rfl; omega, hb, (Array.getElem?_eq_some_iff.1 hg).1⟩
def RetFil (W0 : World) (A : Adr) (P : Nat) (a : Option Addr) (gcap : Nat) (l : List BarT) (k : Nat) (S : SetsT) (res : Option SetsT) (e : Ending) (w' : World) : Prop :=
  match res with
    | none => e = .returned (.bool false) ∧ ∃ vs us, FilM W0 w' A P a gcap l k vs us S (S.map (barsOf l))
    | some S' => e = .returned (.bool true) ∧ ∃ vs us, FilM W0 w' A P a gcap l k vs us S' (S'.map (barsOf l))
theorem RetFil.no {W0 : World} {A : Adr} {P : Nat} {a : Option Addr} {gcap : Nat} {l : List BarT} {k : Nat} {S : SetsT} {res : Option SetsT} {vs us : List Value} {w' : World} (hr : res = none) (hm : FilM W0 w' A P a gcap l k vs us S (S.map (barsOf l))) : RetFil W0 A P a gcap l k S res (.returned (.bool false)) w' := by
  subst hr; exact ⟨rfl, vs, us, hm⟩
theorem RetFil.yes {W0 : World} {A : Adr} {P : Nat} {a : Option Addr} {gcap : Nat} {l : List BarT} {k : Nat} {S S' : SetsT} {res : Option SetsT} {vs us : List Value} {w' : World} (hr : res = some S') (hm : FilM W0 w' A P a gcap l k vs us S' (S'.map (barsOf l))) : RetFil W0 A P a gcap l k S res (.returned (.bool true)) w' := by
  subst hr; exact ⟨rfl, vs, us, hm⟩
set_option maxHeartbeats 8000000 in
theorem fill_at (W0 : World) (A : Adr) (P : Nat) (hP1 : 1 ≤ P) (hP8 : P ≤ 8) (a : Option Addr) (gcap : Nat) (l : List BarT) (hBars : BarsAt W0 a l.length l) (hg : isGraphB ((P : Int), l) = true) (k : Nat) (hk : k ≤ 3) : ∀ (d e : Nat) (S : SetsT) (vs us : List Value) (W : World), d + e = l.length → SetsOk k e S → FilM W0 W A P a gcap l k vs us S (S.map (barsOf l)) →
    Calls Tryz.prog 49 #[.int .i64 (e : Int), .pointer (some ⟨A.gB, 0, none⟩), .pointer (some ⟨A.kB, 0, none⟩), .pointer (some ⟨A.pB, 0, none⟩), .pointer (some ⟨A.oB, 0, none⟩), .pointer (some ⟨A.fB, 0, none⟩)] W (RetFil W0 A P a gcap l k S (fillS (forF l) k d e S))
  | 0, e, S, vs, us, W, hde, hok, hm => by
    obtain rfl : e = l.length := by omega
    have g1 := hm.g1
    have zg := hm.lt _ A.bG
    have HM := Lib.hid hm
    clear hm
    go_enter Tryz.func49, Tryz.ntmps49
    go_wp2_with fail
    go_ret
    exact RetFil.yes rfl HM.out
  | d + 1, e, S, vs, us, W, hde, hok, hm => by
    have IH := Lib.hid (fill_at W0 A P hP1 hP8 a gcap l hBars hg k hk d (e + 1))
    have he : e < l.length := by omega
    have HOK := Lib.hid hok
    have HM := Lib.hid hm
    have H1 := Lib.hid hBars
    obtain ⟨_, hll⟩ := isGraphB_bd hg
    have hSl := hok.len
    have hFS := Lib.hid (fillS_succ (forF l) k d e S)
    have HEN := Lib.hid (isGraphB_ends hg)
    clear hok hm
    have hei : ((e : Int) == (l.length : Int)) = false := by rw [beq_eq_false_iff_ne]; omega
    generalize hF : fillS (forF l) k (d + 1) e S = R at *
    generalize hD : d + 1 = D at *
    have HFD := Lib.hid (And.intro hF hD)
    clear hF hD hBars
    have g1 := HM.out.g1
    have zg := HM.out.lt _ A.bG
    have ck := HM.out.ck
    have zk := HM.out.lt _ A.bK
    go_enter Tryz.func49, Tryz.ntmps49
    go_wp2_with fail
    clear g1 zg ck zk
    go_loopw [15] (fun s w9 => ∃ i : Nat, i ≤ k ∧ s = .int .i64 i ∧ (∀ j, j < i → tryS (forF l) k d e S j = none) ∧ ∃ vs us, FilM W0 w9 A P a gcap l k vs us S (S.map (barsOf l))) (fun s _ => k - (intOf s).toNat)
    case atStart => exact ⟨0, Nat.zero_le _, rfl, fun j hj => absurd hj (Nat.not_lt_zero _), _, _, HM.out⟩
    case round =>
      clear HM
      clear vs us
      obtain ⟨i, hi, rfl, hno, vs, us, hm⟩ := hrel
      have HN := Lib.hid hno
      have F := Lib.hid hm
      clear hno hm
      by_cases hik : i < k
      · obtain ⟨u0, r0, hu, hr0, ho0⟩ := F.out.mb.rows.get (k := i) (by rw [List.length_map]; omega)
        have HR0 := Lib.hid hr0
        have hr1 : r0 = barsOf l (setA S i) := by
          rw [List.getElem?_map, setA_get (by omega)] at hr0
          exact (Option.some.inj hr0).symm
        subst hr1
        have HU := Lib.hid hu
        have c0 := World.ownsRow.cellAt F.out.mb.out i (by have := F.out.mb.len; omega)
        rw [hu] at c0
        have HO0 := Lib.hid ho0
        obtain ⟨ub, uc, rfl, hiu⟩ := ho0.form
        clear hu hr0 hiu ho0
        have hlen := HOK.out.lenA i
        have HBL := Lib.hid (barsOf_len l (setA S i))
        obtain ⟨bb, off, ⟨x1, x2⟩, rfl, hbb, hx, hc0, hc1⟩ := H1.out.2 e he
        dsimp only at hc0 hc1
        have hbc := F.out.bel
        obtain ⟨r', hr'⟩ : ∃ r', r' = setA S i ++ [(e : Int)] := ⟨_, rfl⟩
        have HR' := Lib.hid hr'
        have HX : Hid (barsOf l r' = barsOf l (setA S i) ++ [(x1, x2)]) := Lib.hid (by rw [hr']; exact barsOf_snoc hx)
        have HBN : Hid ((barsOf l r').length = (setA S i).length + 1) := Lib.hid (by rw [HX.out, List.length_append, barsOf_len]; rfl)
        have HRN : Hid (r'.length = (setA S i).length + 1) := Lib.hid (by rw [hr', List.length_append]; rfl)
        have HTR : Hid (tryS (forF l) k d e S i = if forF l r' = true then fillS (forF l) k d (e + 1) (S.set i r') else none) := Lib.hid (by rw [hr']; rfl)
        have HOKA := Lib.hid (HOK.out.add hik)
        rw [← hr'] at HOKA
        have HEE : Hid (∀ x ∈ barsOf l r', (0 ≤ x.1 ∧ x.1 < P) ∧ (0 ≤ x.2 ∧ x.2 < P)) := Lib.hid fun x hx => by
          unfold barsOf at hx
          obtain ⟨y, hy, rfl⟩ := List.mem_map.1 hx
          have h9 := HOKA.out.rng i y (by rw [setA_set (by omega), if_pos rfl]; exact hy)
          rw [List.getElem?_eq_getElem (show y.toNat < l.length by omega), Option.getD_some]
          exact HEN.out _ (List.getElem_mem _)
        clear hr' hx
        have hii : (i : Int) < (k : Int) := by omega
        have hi0 : (0 : Int) ≤ (i : Int) := by omega
        have hee : (e : Int) < (l.length : Int) := by omega
        have he0 : (0 : Int) ≤ (e : Int) := by omega
        go_wp2_with fail
        have FD := Lib.hid (F.out.below (w' := wr.drew) (Below.refl _ _).drew)
        have s0 : wr.drew.cell? ⟨A.pB, 0, none⟩ = some (.slice (some ⟨A.pg, 0, none⟩) k A.pc) ∧ wr.drew.cell? ⟨A.pg, i, none⟩ = some (.slice ub (barsOf l (setA S i)).length uc) ∧ wr.drew.cell? ⟨A.gB, 1, none⟩ = some (.slice (some ⟨bb, off, none⟩) l.length gcap) ∧ wr.drew.cell? ⟨bb, off + e * 2, none⟩ = some (.int .i64 x1) ∧ wr.drew.cell? ⟨bb, off + e * 2 + 1, none⟩ = some (.int .i64 x2) := ⟨FD.out.cp, c0, FD.out.g1, (hbc.cell (p := ⟨bb, off + e * 2, none⟩) hbb).trans hc0, (hbc.cell (p := ⟨bb, off + e * 2 + 1, none⟩) hbb).trans hc1⟩
        refine wp_regionZ (fun w' => w'.cell? ⟨A.pB, 0, none⟩ = some (.slice (some ⟨A.pg, 0, none⟩) k A.pc) ∧ w'.cell? ⟨A.pg, i, none⟩ = some (.slice ub (barsOf l (setA S i)).length uc) ∧ w'.cell? ⟨A.gB, 1, none⟩ = some (.slice (some ⟨bb, off, none⟩) l.length gcap) ∧ w'.cell? ⟨bb, off + e * 2, none⟩ = some (.int .i64 x1) ∧ w'.cell? ⟨bb, off + e * 2 + 1, none⟩ = some (.int .i64 x2)) 14 (by kernel_rfl) ?_
        clear F c0 hc0 hc1
        generalize wr.drew = wd at *
        refine wpAnyZ_takeC (i := 0) (v := ?_) [13, 14] rfl (by kernel_rfl) (by kernel_rfl) (by kernel_rfl) (by kernel_rfl) (by kernel_rfl) (by kernel_rfl) (fun _ _ _ h => h) (s0) (by rfl) ?_ ?_
        rotate_left
        · intro x hx; obtain ⟨u1, u2, u3, u4, u5⟩ := hx; go_simp; try (with_reducible rfl)
        try simp only [Act.put, List.setIfInBounds_toArray, List.set_cons_zero, List.set_cons_succ, List.getElem_toArray, List.getElem_cons_zero, List.getElem_cons_succ]
        refine wpAnyZ_takeC (i := 1) (v := ?_) [13, 14] rfl (by kernel_rfl) (by kernel_rfl) (by kernel_rfl) (by kernel_rfl) (by kernel_rfl) (by kernel_rfl) (fun _ _ _ h => h) (s0) (by rfl) ?_ ?_
        rotate_left
        · intro x hx; obtain ⟨u1, u2, u3, u4, u5⟩ := hx; go_simp; try (with_reducible rfl)
        try simp only [Act.put, List.setIfInBounds_toArray, List.set_cons_zero, List.set_cons_succ, List.getElem_toArray, List.getElem_cons_zero, List.getElem_cons_succ]
        refine wpAnyZ_takeC (i := 2) (v := ?_) [4, 5, 12, 14] rfl (by kernel_rfl) (by kernel_rfl) (by kernel_rfl) (by kernel_rfl) (by kernel_rfl) (by kernel_rfl) (fun _ _ _ h => h) (s0) (by rfl) ?_ ?_
        rotate_left
        · intro x hx; obtain ⟨u1, u2, u3, u4, u5⟩ := hx; go_simp; try (with_reducible rfl)
        try simp only [Act.put, List.setIfInBounds_toArray, List.set_cons_zero, List.set_cons_succ, List.getElem_toArray, List.getElem_cons_zero, List.getElem_cons_succ]
        refine wpAnyZ_takeC (i := 3) (v := ?_) [4, 5, 12, 14] rfl (by kernel_rfl) (by kernel_rfl) (by kernel_rfl) (by kernel_rfl) (by kernel_rfl) (by kernel_rfl) (fun _ _ _ h => h) (s0) (by rfl) ?_ ?_
        rotate_left
        · intro x hx; obtain ⟨u1, u2, u3, u4, u5⟩ := hx; go_simp; try (with_reducible rfl)
        try simp only [Act.put, List.setIfInBounds_toArray, List.set_cons_zero, List.set_cons_succ, List.getElem_toArray, List.getElem_cons_zero, List.getElem_cons_succ]
        refine wpAnyZ_takeC (i := 4) (v := ?_) [5, 12, 14] rfl (by kernel_rfl) (by kernel_rfl) (by kernel_rfl) (by kernel_rfl) (by kernel_rfl) (by kernel_rfl) (fun _ _ _ h => h) (s0) (by rfl) ?_ ?_
        rotate_left
        · intro x hx; obtain ⟨u1, u2, u3, u4, u5⟩ := hx; go_simp; try (with_reducible rfl)
        try simp only [Act.put, List.setIfInBounds_toArray, List.set_cons_zero, List.set_cons_succ, List.getElem_toArray, List.getElem_cons_zero, List.getElem_cons_succ]
        refine wpAnyZ_takeC (i := 5) (v := ?_) [12, 14] rfl (by kernel_rfl) (by kernel_rfl) (by kernel_rfl) (by kernel_rfl) (by kernel_rfl) (by kernel_rfl) (fun _ _ _ h => h) (s0) (by rfl) ?_ ?_
        rotate_left
        · intro x hx; obtain ⟨u1, u2, u3, u4, u5⟩ := hx; go_simp; try (with_reducible rfl)
        try simp only [Act.put, List.setIfInBounds_toArray, List.set_cons_zero, List.set_cons_succ, List.getElem_toArray, List.getElem_cons_zero, List.getElem_cons_succ]
        refine wpAnyZ_takeC (i := 6) (v := ?_) [7, 9, 10, 11, 12, 14] rfl (by kernel_rfl) (by kernel_rfl) (by kernel_rfl) (by kernel_rfl) (by kernel_rfl) (by kernel_rfl) (fun _ _ _ h => h) (s0) (by rfl) ?_ ?_
        rotate_left
        · intro x hx; obtain ⟨u1, u2, u3, u4, u5⟩ := hx; go_simp; try (with_reducible rfl)
        try simp only [Act.put, List.setIfInBounds_toArray, List.set_cons_zero, List.set_cons_succ, List.getElem_toArray, List.getElem_cons_zero, List.getElem_cons_succ]
        refine wpAnyZ_takeC (i := 7) (v := ?_) [9, 10, 11, 12, 14] rfl (by kernel_rfl) (by kernel_rfl) (by kernel_rfl) (by kernel_rfl) (by kernel_rfl) (by kernel_rfl) (fun _ _ _ h => h) (s0) (by rfl) ?_ ?_
        rotate_left
        · intro x hx; obtain ⟨u1, u2, u3, u4, u5⟩ := hx; go_simp; try (with_reducible rfl)
        try simp only [Act.put, List.setIfInBounds_toArray, List.set_cons_zero, List.set_cons_succ, List.getElem_toArray, List.getElem_cons_zero, List.getElem_cons_succ]
        refine wpAnyZ_takeC (i := 8) (v := ?_) [9, 10, 11, 12, 14] rfl (by kernel_rfl) (by kernel_rfl) (by kernel_rfl) (by kernel_rfl) (by kernel_rfl) (by kernel_rfl) (fun _ _ _ h => h) (s0) (by rfl) ?_ ?_
        rotate_left
        · intro x hx; obtain ⟨u1, u2, u3, u4, u5⟩ := hx; go_simp; try (with_reducible rfl)
        try simp only [Act.put, List.setIfInBounds_toArray, List.set_cons_zero, List.set_cons_succ, List.getElem_toArray, List.getElem_cons_zero, List.getElem_cons_succ]
        refine wpAnyZ_takeC (i := 9) (v := ?_) [10, 11, 12, 14] rfl (by kernel_rfl) (by kernel_rfl) (by kernel_rfl) (by kernel_rfl) (by kernel_rfl) (by kernel_rfl) (fun _ _ _ h => h) (s0) (by rfl) ?_ ?_
        rotate_left
        · intro x hx; obtain ⟨u1, u2, u3, u4, u5⟩ := hx; go_simp; try (with_reducible rfl)
        try simp only [Act.put, List.setIfInBounds_toArray, List.set_cons_zero, List.set_cons_succ, List.getElem_toArray, List.getElem_cons_zero, List.getElem_cons_succ]
        refine wpAnyZ_takeC (i := 10) (v := ?_) [11, 12, 14] rfl (by kernel_rfl) (by kernel_rfl) (by kernel_rfl) (by kernel_rfl) (by kernel_rfl) (by kernel_rfl) (fun _ _ _ h => h) (s0) (by rfl) ?_ ?_
        rotate_left
        · intro x hx; obtain ⟨u1, u2, u3, u4, u5⟩ := hx; go_simp; try (with_reducible rfl)
        try simp only [Act.put, List.setIfInBounds_toArray, List.set_cons_zero, List.set_cons_succ, List.getElem_toArray, List.getElem_cons_zero, List.getElem_cons_succ]
        refine wpAnyZ_step (i := 11) (by kernel_rfl) rfl (by rfl) ?_
        intro KK hKK
        have FA := Lib.hid (FD.out.below (belAl wd (.cells #[.int .i64 x1, .int .i64 x2] 70)))
        have p0 : (wd.alloc (.cells #[.int .i64 x1, .int .i64 x2] 70)).cell? ⟨wd.heap.size, 0, none⟩ = some (.int .i64 x1) := by simp [World.cell?_alloc_new]
        have p1 : (wd.alloc (.cells #[.int .i64 x1, .int .i64 x2] 70)).cell? ⟨wd.heap.size, 1, none⟩ = some (.int .i64 x2) := by simp [World.cell?_alloc_new]
        have bA := belAl wd (.cells #[.int .i64 x1, .int .i64 x2] 70)
        have hbz := FD.out.bel.size
        have zpg := FD.out.mb.blk
        have sA : (wd.alloc (.cells #[.int .i64 x1, .int .i64 x2] 70)).cell? ⟨A.pB, 0, none⟩ = some (.slice (some ⟨A.pg, 0, none⟩) k A.pc) ∧ (wd.alloc (.cells #[.int .i64 x1, .int .i64 x2] 70)).cell? ⟨A.pg, i, none⟩ = some (.slice ub (barsOf l (setA S i)).length uc) ∧ (wd.alloc (.cells #[.int .i64 x1, .int .i64 x2] 70)).cell? ⟨A.gB, 1, none⟩ = some (.slice (some ⟨bb, off, none⟩) l.length gcap) ∧ (wd.alloc (.cells #[.int .i64 x1, .int .i64 x2] 70)).cell? ⟨bb, off + e * 2, none⟩ = some (.int .i64 x1) ∧ (wd.alloc (.cells #[.int .i64 x1, .int .i64 x2] 70)).cell? ⟨bb, off + e * 2 + 1, none⟩ = some (.int .i64 x2) := ⟨FA.out.cp, (bA.cell (p := ⟨A.pg, i, none⟩) zpg.1).trans s0.2.1, FA.out.g1, (bA.cell (p := ⟨bb, off + e * 2, none⟩) (show bb < wd.heap.size by omega)).trans s0.2.2.2.1, (bA.cell (p := ⟨bb, off + e * 2 + 1, none⟩) (show bb < wd.heap.size by omega)).trans s0.2.2.2.2⟩
        go_simp
        refine hKK.out _ _ (.inr sA) ?_
        clear hKK KK
        try simp only [Act.put, List.setIfInBounds_toArray, List.set_cons_zero, List.set_cons_succ, List.getElem_toArray, List.getElem_cons_zero, List.getElem_cons_succ]
        refine wpAnyZ_step (i := 12) (by kernel_rfl) rfl (by rfl) ?_
        intro KK hKK
        refine stepBarP (by rfl) _ _ (by rfl) (by rfl) (FA.out.mb.rows.own i _ _ HU.out HR0.out) x1 x2 wd.heap.size (by rfl) p0 p1 (by rw [HBL.out]; omega) FA.out.bel.size ?_
        intro v5 w5 h5 k5 a5
        rw [← HX.out] at h5
        have F5 := Lib.hid (FA.out.putP HU.out HR0.out k5 h5 (a5.imp id fun e b hb => by rw [e] at hb; exact Nat.le_of_eq (Option.some.inj hb)))
        have hnb := FA.out.apu
        have hub : ∀ b, b < W0.heap.size → ¬ some b = (Value.slice ub (barsOf l (setA S i)).length uc).ownBlock := fun b hb h9 => by
          have := (World.ownsRow.lt (FA.out.mb.rows.own i _ _ HU.out HR0.out) b h9.symm).1
          omega
        have hpgu : ¬ some A.pg = (Value.slice ub (barsOf l (setA S i)).length uc).ownBlock := fun h9 => types_apart (by decide) FA.out.mb.out (FA.out.mb.rows.own i _ _ HU.out HR0.out) A.pg rfl h9.symm
        have hmu := List.mem_of_getElem? HU.out
        have hsa := FA.out.lt
        have hza := FA.out.mb.blk
        have s5 : w5.cell? ⟨A.pB, 0, none⟩ = some (.slice (some ⟨A.pg, 0, none⟩) k A.pc) ∧ w5.cell? ⟨A.pg, i, none⟩ = some (.slice ub (barsOf l (setA S i)).length uc) ∧ w5.cell? ⟨A.gB, 1, none⟩ = some (.slice (some ⟨bb, off, none⟩) l.length gcap) ∧ w5.cell? ⟨bb, off + e * 2, none⟩ = some (.int .i64 x1) ∧ w5.cell? ⟨bb, off + e * 2 + 1, none⟩ = some (.int .i64 x2) := ⟨(k5.cell (hsa _ A.bP) fun h9 => hnb _ A.bP _ hmu h9.symm).trans sA.1, (k5.cell hza.1 hpgu).trans sA.2.1, (k5.cell (hsa _ A.bG) fun h9 => hnb _ A.bG _ hmu h9.symm).trans sA.2.2.1, (k5.cell (by have := bA.size; omega) (hub _ hbb)).trans sA.2.2.2.1, (k5.cell (by have := bA.size; omega) (hub _ hbb)).trans sA.2.2.2.2⟩
        have f5 : w5.frozen? ⟨A.pg, i, none⟩ = false := (k5.frozen hza.1 hpgu).trans (FA.out.mb.froz i)
        have z5 : A.pg < w5.heap.size := Nat.lt_of_lt_of_le hza.1 k5.size
        have hbz5 : W0.heap.size ≤ w5.heap.size := Nat.le_trans (by have := bA.size; omega) k5.size
        obtain ⟨av, cv, rfl, -⟩ := h5.form
        have c5 := s5.2.1
        clear hnb hub hpgu hmu hsa hza sA p0 p1 bA h5 k5 a5 s0 FD FA zpg hbz
        refine hKK.out _ _ (.inr s5) ?_
        clear hKK KK
        try simp only [Act.put, List.setIfInBounds_toArray, List.set_cons_zero, List.set_cons_succ, List.getElem_toArray, List.getElem_cons_zero, List.getElem_cons_succ]
        refine wpAnyZ_takeC (i := 13) (v := ?_) [14] rfl (by kernel_rfl) (by kernel_rfl) (by kernel_rfl) (by kernel_rfl) (by kernel_rfl) (by kernel_rfl) (fun _ _ _ h => h) (s5) (by rfl) ?_ ?_
        rotate_left
        · intro x hx; obtain ⟨u1, u2, u3, u4, u5⟩ := hx; go_simp; try (with_reducible rfl)
        try simp only [Act.put, List.setIfInBounds_toArray, List.set_cons_zero, List.set_cons_succ, List.getElem_toArray, List.getElem_cons_zero, List.getElem_cons_succ]
        refine wpAnyZ_step (i := 14) (by kernel_rfl) rfl (by rfl) ?_
        intro KK hKK
        go_simp
        refine hKK.out _ _ (.inl (by kernel_rfl)) ?_
        clear hKK KK
        try simp only [Act.put, List.setIfInBounds_toArray, List.set_cons_zero, List.set_cons_succ, List.getElem_toArray, List.getElem_cons_zero, List.getElem_cons_succ]
        refine wpAnyZ_done (by kernel_rfl) ?_ _
        have HU6 : Hid ((us.set i (.slice av (barsOf l r').length cv))[i]? = some (.slice av (barsOf l r').length cv)) := Lib.hid (by rw [List.getElem?_set_self (lt_of_getElem? HU.out)])
        clear s5 c5 f5 z5 hbz5
        generalize (w5.setCell ⟨A.pg, i, none⟩ (.slice av (barsOf l r').length cv)) = w6 at *
        clear w5

        obtain ⟨w0, s1, hv, hs1, ho1⟩ := F5.out.mo.rows.get (k := i) (by omega)
        rw [setA_get (by omega)] at hs1
        obtain rfl := Option.some.inj hs1
        have HV := Lib.hid hv
        have HS1 := Lib.hid (setA_get (S := S) (i := i) (by omega))
        have c0 := World.ownsRow.cellAt F5.out.mo.out i (by have := F5.out.mo.len; omega)
        rw [hv] at c0
        obtain ⟨vb, vc, rfl, hiv⟩ := ho1.form
        clear hv hiv ho1 hs1
        go_wp2_with fail
        have FD := Lib.hid (F5.out.below (w' := w6.drew) (Below.refl _ _).drew)
        have s0 : w6.drew.cell? ⟨A.oB, 0, none⟩ = some (.slice (some ⟨A.og, 0, none⟩) k A.oc) ∧ w6.drew.cell? ⟨A.og, i, none⟩ = some (.slice vb (setA S i).length vc) := ⟨FD.out.co, c0⟩
        refine wp_regionZ (fun w' => w'.cell? ⟨A.oB, 0, none⟩ = some (.slice (some ⟨A.og, 0, none⟩) k A.oc) ∧ w'.cell? ⟨A.og, i, none⟩ = some (.slice vb (setA S i).length vc)) 10 (by kernel_rfl) ?_
        clear F5 c0
        generalize w6.drew = wd at *
        refine wpAnyZ_takeC (i := 0) (v := ?_) [9, 10] rfl (by kernel_rfl) (by kernel_rfl) (by kernel_rfl) (by kernel_rfl) (by kernel_rfl) (by kernel_rfl) (fun _ _ _ h => h) (s0) (by rfl) ?_ ?_
        rotate_left
        · intro x hx; obtain ⟨u1, u2⟩ := hx; go_simp; try (with_reducible rfl)
        try simp only [Act.put, List.setIfInBounds_toArray, List.set_cons_zero, List.set_cons_succ, List.getElem_toArray, List.getElem_cons_zero, List.getElem_cons_succ]
        refine wpAnyZ_takeC (i := 1) (v := ?_) [9, 10] rfl (by kernel_rfl) (by kernel_rfl) (by kernel_rfl) (by kernel_rfl) (by kernel_rfl) (by kernel_rfl) (fun _ _ _ h => h) (s0) (by rfl) ?_ ?_
        rotate_left
        · intro x hx; obtain ⟨u1, u2⟩ := hx; go_simp; try (with_reducible rfl)
        try simp only [Act.put, List.setIfInBounds_toArray, List.set_cons_zero, List.set_cons_succ, List.getElem_toArray, List.getElem_cons_zero, List.getElem_cons_succ]
        refine wpAnyZ_takeC (i := 2) (v := ?_) [4, 5, 8, 10] rfl (by kernel_rfl) (by kernel_rfl) (by kernel_rfl) (by kernel_rfl) (by kernel_rfl) (by kernel_rfl) (fun _ _ _ h => h) (s0) (by rfl) ?_ ?_
        rotate_left
        · intro x hx; obtain ⟨u1, u2⟩ := hx; go_simp; try (with_reducible rfl)
        try simp only [Act.put, List.setIfInBounds_toArray, List.set_cons_zero, List.set_cons_succ, List.getElem_toArray, List.getElem_cons_zero, List.getElem_cons_succ]
        refine wpAnyZ_takeC (i := 3) (v := ?_) [4, 5, 8, 10] rfl (by kernel_rfl) (by kernel_rfl) (by kernel_rfl) (by kernel_rfl) (by kernel_rfl) (by kernel_rfl) (fun _ _ _ h => h) (s0) (by rfl) ?_ ?_
        rotate_left
        · intro x hx; obtain ⟨u1, u2⟩ := hx; go_simp; try (with_reducible rfl)
        try simp only [Act.put, List.setIfInBounds_toArray, List.set_cons_zero, List.set_cons_succ, List.getElem_toArray, List.getElem_cons_zero, List.getElem_cons_succ]
        refine wpAnyZ_takeC (i := 4) (v := ?_) [5, 8, 10] rfl (by kernel_rfl) (by kernel_rfl) (by kernel_rfl) (by kernel_rfl) (by kernel_rfl) (by kernel_rfl) (fun _ _ _ h => h) (s0) (by rfl) ?_ ?_
        rotate_left
        · intro x hx; obtain ⟨u1, u2⟩ := hx; go_simp; try (with_reducible rfl)
        try simp only [Act.put, List.setIfInBounds_toArray, List.set_cons_zero, List.set_cons_succ, List.getElem_toArray, List.getElem_cons_zero, List.getElem_cons_succ]
        refine wpAnyZ_takeC (i := 5) (v := ?_) [8, 10] rfl (by kernel_rfl) (by kernel_rfl) (by kernel_rfl) (by kernel_rfl) (by kernel_rfl) (by kernel_rfl) (fun _ _ _ h => h) (s0) (by rfl) ?_ ?_
        rotate_left
        · intro x hx; obtain ⟨u1, u2⟩ := hx; go_simp; try (with_reducible rfl)
        try simp only [Act.put, List.setIfInBounds_toArray, List.set_cons_zero, List.set_cons_succ, List.getElem_toArray, List.getElem_cons_zero, List.getElem_cons_succ]
        refine wpAnyZ_takeC (i := 6) (v := ?_) [7, 8, 10] rfl (by kernel_rfl) (by kernel_rfl) (by kernel_rfl) (by kernel_rfl) (by kernel_rfl) (by kernel_rfl) (fun _ _ _ h => h) (s0) (by rfl) ?_ ?_
        rotate_left
        · intro x hx; obtain ⟨u1, u2⟩ := hx; go_simp; try (with_reducible rfl)
        try simp only [Act.put, List.setIfInBounds_toArray, List.set_cons_zero, List.set_cons_succ, List.getElem_toArray, List.getElem_cons_zero, List.getElem_cons_succ]
        refine wpAnyZ_step (i := 7) (by kernel_rfl) rfl (by rfl) ?_
        intro KK hKK
        have FA := Lib.hid (FD.out.below (belAl wd (.cells #[.int .i64 (e : Int)] 3)))
        have p0 : (wd.alloc (.cells #[.int .i64 (e : Int)] 3)).cell? ⟨wd.heap.size, 0, none⟩ = some (.int .i64 (e : Int)) := by simp [World.cell?_alloc_new]
        have bA := belAl wd (.cells #[.int .i64 (e : Int)] 3)
        have zog := FD.out.mo.blk
        have sA : (wd.alloc (.cells #[.int .i64 (e : Int)] 3)).cell? ⟨A.oB, 0, none⟩ = some (.slice (some ⟨A.og, 0, none⟩) k A.oc) ∧ (wd.alloc (.cells #[.int .i64 (e : Int)] 3)).cell? ⟨A.og, i, none⟩ = some (.slice vb (setA S i).length vc) := ⟨FA.out.co, (bA.cell (p := ⟨A.og, i, none⟩) zog.1).trans s0.2⟩
        go_simp
        refine hKK.out _ _ (.inr sA) ?_
        clear hKK KK
        try simp only [Act.put, List.setIfInBounds_toArray, List.set_cons_zero, List.set_cons_succ, List.getElem_toArray, List.getElem_cons_zero, List.getElem_cons_succ]
        refine wpAnyZ_step (i := 8) (by kernel_rfl) rfl (by rfl) ?_
        intro KK hKK
        refine stepInts1 (by rfl) _ _ (by rfl) (by rfl) (FA.out.mo.rows.own i _ _ HV.out HS1.out) (e : Int) wd.heap.size (by rfl) p0 (by omega) FA.out.bel.size ?_
        intro v7 w7 h7 k7 a7
        rw [← HR'.out] at h7
        have F7 := Lib.hid (FA.out.putO HV.out HS1.out k7 h7 (a7.imp id fun e b hb => by rw [e] at hb; exact Nat.le_of_eq (Option.some.inj hb)))
        have hpgu : ¬ some A.og = (Value.slice vb (setA S i).length vc).ownBlock := fun h9 => types_apart (by decide) FA.out.mo.out (FA.out.mo.rows.own i _ _ HV.out HS1.out) A.og rfl h9.symm
        have hmu := List.mem_of_getElem? HV.out
        have hza := FA.out.mo.blk
        have s7 : w7.cell? ⟨A.oB, 0, none⟩ = some (.slice (some ⟨A.og, 0, none⟩) k A.oc) ∧ w7.cell? ⟨A.og, i, none⟩ = some (.slice vb (setA S i).length vc) := ⟨(k7.cell (FA.out.lt _ A.bO) fun h9 => FA.out.apv _ A.bO _ hmu h9.symm).trans sA.1, (k7.cell hza.1 hpgu).trans sA.2⟩
        have f7 : w7.frozen? ⟨A.og, i, none⟩ = false := (k7.frozen hza.1 hpgu).trans (FA.out.mo.froz i)
        have z7 : A.og < w7.heap.size := Nat.lt_of_lt_of_le hza.1 k7.size
        obtain ⟨aw, cw, rfl, -⟩ := h7.form
        have c7 := s7.2
        clear hpgu hmu hza sA p0 bA h7 k7 a7 s0 FD FA zog
        refine hKK.out _ _ (.inr s7) ?_
        clear hKK KK
        try simp only [Act.put, List.setIfInBounds_toArray, List.set_cons_zero, List.set_cons_succ, List.getElem_toArray, List.getElem_cons_zero, List.getElem_cons_succ]
        refine wpAnyZ_takeC (i := 9) (v := ?_) [10] rfl (by kernel_rfl) (by kernel_rfl) (by kernel_rfl) (by kernel_rfl) (by kernel_rfl) (by kernel_rfl) (fun _ _ _ h => h) (s7) (by rfl) ?_ ?_
        rotate_left
        · intro x hx; obtain ⟨u1, u2⟩ := hx; go_simp; try (with_reducible rfl)
        try simp only [Act.put, List.setIfInBounds_toArray, List.set_cons_zero, List.set_cons_succ, List.getElem_toArray, List.getElem_cons_zero, List.getElem_cons_succ]
        refine wpAnyZ_step (i := 10) (by kernel_rfl) rfl (by rfl) ?_
        intro KK hKK
        go_simp
        refine hKK.out _ _ (.inl (by kernel_rfl)) ?_
        clear hKK KK
        try simp only [Act.put, List.setIfInBounds_toArray, List.set_cons_zero, List.set_cons_succ, List.getElem_toArray, List.getElem_cons_zero, List.getElem_cons_succ]
        refine wpAnyZ_done (by kernel_rfl) ?_ _
        clear s7 c7 f7 z7
        generalize (w7.setCell ⟨A.og, i, none⟩ (.slice aw r'.length cw)) = w8 at *
        clear w7
        have F8 : Hid (FilM W0 w8 A P (some ⟨bb, off, none⟩) gcap l k (vs.set i (.slice aw r'.length cw)) (us.set i (.slice av (barsOf l r').length cv)) (S.set i r') ((S.set i r').map (barsOf l))) := Lib.hid (by
          have h9 := F7.out
          rwa [← List.map_set] at h9)
        clear F7

        have cfu := F8.out.cf
        unfold Adr.clos at cfu
        have HU8 : Hid ((us.set i (.slice av (barsOf l r').length cv))[i]? = some (.slice av (barsOf l r').length cv)) := HU6
        have HRT : Hid (((S.set i r').map (barsOf l))[i]? = some (barsOf l r')) := Lib.hid (by rw [List.getElem?_map, List.getElem?_set_self (by omega)]; rfl)
        have cpg := World.ownsRow.cellAt F8.out.mb.out i (by have := F8.out.mb.len; omega)
        rw [HU8.out] at cpg
        go_wp2_with fail
        have FD := Lib.hid (F8.out.below (w' := w8.drew) (Below.refl _ _).drew)
        have s0 : w8.drew.cell? ⟨A.gB, 0, none⟩ = some (.int .i64 (P : Int)) ∧ w8.drew.cell? ⟨A.pB, 0, none⟩ = some (.slice (some ⟨A.pg, 0, none⟩) k A.pc) ∧ w8.drew.cell? ⟨A.pg, i, none⟩ = some (.slice av (barsOf l r').length cv) ∧ w8.drew.cell? ⟨A.fB, 0, none⟩ = some (.func (.func 49) #[] #[.pointer (some ⟨A.gB, 0, none⟩), .pointer (some ⟨A.kB, 0, none⟩), .pointer (some ⟨A.pB, 0, none⟩), .pointer (some ⟨A.oB, 0, none⟩), .pointer (some ⟨A.fB, 0, none⟩)]) := ⟨FD.out.g0, FD.out.cp, cpg, cfu⟩
        refine wp_regionZ (fun w' => w'.cell? ⟨A.gB, 0, none⟩ = some (.int .i64 (P : Int)) ∧ w'.cell? ⟨A.pB, 0, none⟩ = some (.slice (some ⟨A.pg, 0, none⟩) k A.pc) ∧ w'.cell? ⟨A.pg, i, none⟩ = some (.slice av (barsOf l r').length cv) ∧ w'.cell? ⟨A.fB, 0, none⟩ = some (.func (.func 49) #[] #[.pointer (some ⟨A.gB, 0, none⟩), .pointer (some ⟨A.kB, 0, none⟩), .pointer (some ⟨A.pB, 0, none⟩), .pointer (some ⟨A.oB, 0, none⟩), .pointer (some ⟨A.fB, 0, none⟩)])) 11 (by kernel_rfl) ?_
        clear F8 cpg cfu
        generalize w8.drew = wd at *
        have HID : Hid (BarsAt wd av (barsOf l r').length (barsOf l r')) := Lib.hid (by
          obtain ⟨a9, c9, e9, i9⟩ := (FD.out.mb.rows.own i _ _ HU8.out HRT.out).form
          simp at e9
          rw [e9.1]; exact i9)
        have HFE : Hid (Fo.forestB ((barsOf l r').map eN) = forF l r') := Lib.hid (by rw [barsOf_E]; rfl)
        have HCF := Lib.hid (isForest_at wd P hP1 hP8 av cv (barsOf l r') HID.out (by have := HBN.out; omega) HEE.out)
        rw [HFE.out] at HCF
        refine wpAnyZ_takeC (i := 0) (v := ?_) [1, 6, 7, 11] rfl (by kernel_rfl) (by kernel_rfl) (by kernel_rfl) (by kernel_rfl) (by kernel_rfl) (by kernel_rfl) (fun _ _ _ h => h) (s0) (by rfl) ?_ ?_
        rotate_left
        · intro x hx; obtain ⟨u1, u2, u3, u4⟩ := hx; go_simp; try (with_reducible rfl)
        try simp only [Act.put, List.setIfInBounds_toArray, List.set_cons_zero, List.set_cons_succ, List.getElem_toArray, List.getElem_cons_zero, List.getElem_cons_succ]
        refine wpAnyZ_takeC (i := 1) (v := ?_) [6, 7, 11] rfl (by kernel_rfl) (by kernel_rfl) (by kernel_rfl) (by kernel_rfl) (by kernel_rfl) (by kernel_rfl) (fun _ _ _ h => h) (s0) (by rfl) ?_ ?_
        rotate_left
        · intro x hx; obtain ⟨u1, u2, u3, u4⟩ := hx; go_simp; try (with_reducible rfl)
        try simp only [Act.put, List.setIfInBounds_toArray, List.set_cons_zero, List.set_cons_succ, List.getElem_toArray, List.getElem_cons_zero, List.getElem_cons_succ]
        refine wpAnyZ_takeC (i := 2) (v := ?_) [4, 5, 6, 7, 11] rfl (by kernel_rfl) (by kernel_rfl) (by kernel_rfl) (by kernel_rfl) (by kernel_rfl) (by kernel_rfl) (fun _ _ _ h => h) (s0) (by rfl) ?_ ?_
        rotate_left
        · intro x hx; obtain ⟨u1, u2, u3, u4⟩ := hx; go_simp; try (with_reducible rfl)
        try simp only [Act.put, List.setIfInBounds_toArray, List.set_cons_zero, List.set_cons_succ, List.getElem_toArray, List.getElem_cons_zero, List.getElem_cons_succ]
        refine wpAnyZ_takeC (i := 3) (v := ?_) [4, 5, 6, 7, 11] rfl (by kernel_rfl) (by kernel_rfl) (by kernel_rfl) (by kernel_rfl) (by kernel_rfl) (by kernel_rfl) (fun _ _ _ h => h) (s0) (by rfl) ?_ ?_
        rotate_left
        · intro x hx; obtain ⟨u1, u2, u3, u4⟩ := hx; go_simp; try (with_reducible rfl)
        try simp only [Act.put, List.setIfInBounds_toArray, List.set_cons_zero, List.set_cons_succ, List.getElem_toArray, List.getElem_cons_zero, List.getElem_cons_succ]
        refine wpAnyZ_takeC (i := 4) (v := ?_) [5, 6, 7, 11] rfl (by kernel_rfl) (by kernel_rfl) (by kernel_rfl) (by kernel_rfl) (by kernel_rfl) (by kernel_rfl) (fun _ _ _ h => h) (s0) (by rfl) ?_ ?_
        rotate_left
        · intro x hx; obtain ⟨u1, u2, u3, u4⟩ := hx; go_simp; try (with_reducible rfl)
        try simp only [Act.put, List.setIfInBounds_toArray, List.set_cons_zero, List.set_cons_succ, List.getElem_toArray, List.getElem_cons_zero, List.getElem_cons_succ]
        refine wpAnyZ_takeC (i := 5) (v := ?_) [6, 7, 11] rfl (by kernel_rfl) (by kernel_rfl) (by kernel_rfl) (by kernel_rfl) (by kernel_rfl) (by kernel_rfl) (fun _ _ _ h => h) (s0) (by rfl) ?_ ?_
        rotate_left
        · intro x hx; obtain ⟨u1, u2, u3, u4⟩ := hx; go_simp; try (with_reducible rfl)
        try simp only [Act.put, List.setIfInBounds_toArray, List.set_cons_zero, List.set_cons_succ, List.getElem_toArray, List.getElem_cons_zero, List.getElem_cons_succ]
        refine wpAnyZ_step (i := 6) (by kernel_rfl) rfl (by rfl) ?_
        intro KK hKK
        go_simp
        go_at_call 50
        refine HCF.out.mono ?_
        rintro r w9 ⟨rfl, b9⟩
        have F9 := Lib.hid (FD.out.below b9)
        have zpg := FD.out.mb.blk.1
        have s9 : w9.cell? ⟨A.gB, 0, none⟩ = some (.int .i64 (P : Int)) ∧ w9.cell? ⟨A.pB, 0, none⟩ = some (.slice (some ⟨A.pg, 0, none⟩) k A.pc) ∧ w9.cell? ⟨A.pg, i, none⟩ = some (.slice av (barsOf l r').length cv) ∧ w9.cell? ⟨A.fB, 0, none⟩ = some (.func (.func 49) #[] #[.pointer (some ⟨A.gB, 0, none⟩), .pointer (some ⟨A.kB, 0, none⟩), .pointer (some ⟨A.pB, 0, none⟩), .pointer (some ⟨A.oB, 0, none⟩), .pointer (some ⟨A.fB, 0, none⟩)]) := ⟨F9.out.g0, F9.out.cp, (b9.cell (p := ⟨A.pg, i, none⟩) zpg).trans s0.2.2.1, F9.out.cf⟩
        clear HCF HID FD s0 b9 zpg
        cases hf : forF l r'
        · have HTRY : Hid (tryS (forF l) k d e S i = none) := Lib.hid (by rw [HTR.out, hf]; rfl)
          go_wp2_with fail
          refine hKK.out _ _ (.inr s9) ?_
          clear hKK KK
          try simp only [Act.put, List.setIfInBounds_toArray, List.set_cons_zero, List.set_cons_succ, List.getElem_toArray, List.getElem_cons_zero, List.getElem_cons_succ]
          refine wpAnyZ_takeC (i := 7) (v := ?_) [11] rfl (by kernel_rfl) (by kernel_rfl) (by kernel_rfl) (by kernel_rfl) (by kernel_rfl) (by kernel_rfl) (fun _ _ _ h => h) (s9) (by rfl) ?_ ?_
          rotate_left
          · intro x hx; obtain ⟨u1, u2, u3, u4⟩ := hx; go_simp; try (with_reducible rfl)
          try simp only [Act.put, List.setIfInBounds_toArray, List.set_cons_zero, List.set_cons_succ, List.getElem_toArray, List.getElem_cons_zero, List.getElem_cons_succ]
          refine wpAnyZ_skip (i := 8) [11] rfl (by kernel_rfl) (by kernel_rfl) (by kernel_rfl) (by kernel_rfl) (by kernel_rfl) (by kernel_rfl) (fun _ _ _ h => h) (s9) (by rfl) ?_
          try simp only [Act.put, List.setIfInBounds_toArray, List.set_cons_zero, List.set_cons_succ, List.getElem_toArray, List.getElem_cons_zero, List.getElem_cons_succ]
          refine wpAnyZ_skip (i := 9) [10, 11] rfl (by kernel_rfl) (by kernel_rfl) (by kernel_rfl) (by kernel_rfl) (by kernel_rfl) (by kernel_rfl) (fun _ _ _ h => h) (s9) (by rfl) ?_
          try simp only [Act.put, List.setIfInBounds_toArray, List.set_cons_zero, List.set_cons_succ, List.getElem_toArray, List.getElem_cons_zero, List.getElem_cons_succ]
          refine wpAnyZ_skip (i := 10) [11] rfl (by kernel_rfl) (by kernel_rfl) (by kernel_rfl) (by kernel_rfl) (by kernel_rfl) (by kernel_rfl) (fun _ _ _ h => h) (s9) (by rfl) ?_
          try simp only [Act.put, List.setIfInBounds_toArray, List.set_cons_zero, List.set_cons_succ, List.getElem_toArray, List.getElem_cons_zero, List.getElem_cons_succ]
          refine wpAnyZ_not (i := 11) (by kernel_rfl) rfl (by rfl) (.inl (by kernel_rfl)) ?_
          try simp only [Act.put, List.setIfInBounds_toArray, List.set_cons_zero, List.set_cons_succ, List.getElem_toArray, List.getElem_cons_zero, List.getElem_cons_succ]
          refine wpAnyZ_step (i := 12) (by kernel_rfl) rfl (by rfl) ?_
          intro KK hKK
          go_simp
          refine hKK.out _ _ (.inl (by kernel_rfl)) ?_
          clear hKK KK
          try simp only [Act.put, List.setIfInBounds_toArray, List.set_cons_zero, List.set_cons_succ, List.getElem_toArray, List.getElem_cons_zero, List.getElem_cons_succ]
          refine wpAnyZ_done (by kernel_rfl) ?_ _
          clear s9
          obtain ⟨ux, rx, hux, hrx, hox⟩ := F9.out.mb.rows.get (k := i) (by simp; omega)
          have hrx1 : rx = barsOf l r' := by
            rw [List.getElem?_map, List.getElem?_set_self (by omega)] at hrx
            exact (Option.some.inj hrx).symm
          subst hrx1
          have HRX := Lib.hid hrx
          have HUX := Lib.hid hux
          have cx := World.ownsRow.cellAt F9.out.mb.out i (by have := F9.out.mb.len; omega)
          rw [hux] at cx
          have hbx := rowBlk hox (by have := HBN.out; omega)
          obtain ⟨b, c, rfl, hnc, hcm, hb1, hb2⟩ := hbx
          have HOX := Lib.hid hox
          clear hux hrx hox
          obtain ⟨M, hM⟩ : ∃ M, M = (barsOf l (setA S i)).length := ⟨_, rfl⟩
          have HMN : Hid ((barsOf l r').length = M + 1) := Lib.hid (by rw [hM, HBL.out]; exact HBN.out)
          have HM2 := Lib.hid hM
          clear hM
          have hcut := fun w => cutP (b := b) (n := (barsOf l r').length) (j := M) (c := c) (by have := HMN.out; omega) hnc hcm w
          have hsub : IntKind.i64.wrap (((barsOf l r').length : Int) - 1) = (M : Int) := by
            rw [IntWalk.i64_in _ (by have := HMN.out; have := HBN.out; omega)]
            have := HMN.out
            omega
          have fx := F9.out.mb.froz i
          have zx := F9.out.mb.blk.1
          clear hb1 hb2 hnc hcm
          go_wp2_with fail
          have FD := Lib.hid (F9.out.below (w' := w9.drew) (Below.refl _ _).drew)
          have s0 : w9.drew.cell? ⟨A.pB, 0, none⟩ = some (.slice (some ⟨A.pg, 0, none⟩) k A.pc) ∧ w9.drew.cell? ⟨A.pg, i, none⟩ = some (.slice (some ⟨b, 0, none⟩) (barsOf l r').length c) := ⟨FD.out.cp, cx⟩
          have fd : w9.drew.frozen? ⟨A.pg, i, none⟩ = false := fx
          have zd : A.pg < w9.drew.heap.size := zx
          refine wp_regionZ (fun w' => w'.cell? ⟨A.pB, 0, none⟩ = some (.slice (some ⟨A.pg, 0, none⟩) k A.pc) ∧ w'.cell? ⟨A.pg, i, none⟩ = some (.slice (some ⟨b, 0, none⟩) (barsOf l r').length c)) 14 (by kernel_rfl) ?_
          clear F9 cx fx zx
          generalize w9.drew = wg at *
          refine wpAnyZ_takeC (i := 0) (v := ?_) [14] rfl (by kernel_rfl) (by kernel_rfl) (by kernel_rfl) (by kernel_rfl) (by kernel_rfl) (by kernel_rfl) (fun _ _ _ h => h) (s0) (by rfl) ?_ ?_
          rotate_left
          · intro x hx; obtain ⟨u1, u2⟩ := hx; go_simp; try (with_reducible rfl)
          try simp only [Act.put, List.setIfInBounds_toArray, List.set_cons_zero, List.set_cons_succ, List.getElem_toArray, List.getElem_cons_zero, List.getElem_cons_succ]
          refine wpAnyZ_takeC (i := 1) (v := ?_) [14] rfl (by kernel_rfl) (by kernel_rfl) (by kernel_rfl) (by kernel_rfl) (by kernel_rfl) (by kernel_rfl) (fun _ _ _ h => h) (s0) (by rfl) ?_ ?_
          rotate_left
          · intro x hx; obtain ⟨u1, u2⟩ := hx; go_simp; try (with_reducible rfl)
          try simp only [Act.put, List.setIfInBounds_toArray, List.set_cons_zero, List.set_cons_succ, List.getElem_toArray, List.getElem_cons_zero, List.getElem_cons_succ]
          refine wpAnyZ_takeC (i := 2) (v := ?_) [14] rfl (by kernel_rfl) (by kernel_rfl) (by kernel_rfl) (by kernel_rfl) (by kernel_rfl) (by kernel_rfl) (fun _ _ _ h => h) (s0) (by rfl) ?_ ?_
          rotate_left
          · intro x hx; obtain ⟨u1, u2⟩ := hx; go_simp; try (with_reducible rfl)
          try simp only [Act.put, List.setIfInBounds_toArray, List.set_cons_zero, List.set_cons_succ, List.getElem_toArray, List.getElem_cons_zero, List.getElem_cons_succ]
          refine wpAnyZ_takeC (i := 3) (v := ?_) [14] rfl (by kernel_rfl) (by kernel_rfl) (by kernel_rfl) (by kernel_rfl) (by kernel_rfl) (by kernel_rfl) (fun _ _ _ h => h) (s0) (by rfl) ?_ ?_
          rotate_left
          · intro x hx; obtain ⟨u1, u2⟩ := hx; go_simp; try (with_reducible rfl)
          try simp only [Act.put, List.setIfInBounds_toArray, List.set_cons_zero, List.set_cons_succ, List.getElem_toArray, List.getElem_cons_zero, List.getElem_cons_succ]
          refine wpAnyZ_takeC (i := 4) (v := ?_) [14] rfl (by kernel_rfl) (by kernel_rfl) (by kernel_rfl) (by kernel_rfl) (by kernel_rfl) (by kernel_rfl) (fun _ _ _ h => h) (s0) (by rfl) ?_ ?_
          rotate_left
          · intro x hx; obtain ⟨u1, u2⟩ := hx; go_simp; try (with_reducible rfl)
          try simp only [Act.put, List.setIfInBounds_toArray, List.set_cons_zero, List.set_cons_succ, List.getElem_toArray, List.getElem_cons_zero, List.getElem_cons_succ]
          refine wpAnyZ_takeC (i := 5) (v := ?_) [14] rfl (by kernel_rfl) (by kernel_rfl) (by kernel_rfl) (by kernel_rfl) (by kernel_rfl) (by kernel_rfl) (fun _ _ _ h => h) (s0) (by rfl) ?_ ?_
          rotate_left
          · intro x hx; obtain ⟨u1, u2⟩ := hx; go_simp; try (with_reducible rfl)
          try simp only [Act.put, List.setIfInBounds_toArray, List.set_cons_zero, List.set_cons_succ, List.getElem_toArray, List.getElem_cons_zero, List.getElem_cons_succ]
          refine wpAnyZ_takeC (i := 6) (v := ?_) [14] rfl (by kernel_rfl) (by kernel_rfl) (by kernel_rfl) (by kernel_rfl) (by kernel_rfl) (by kernel_rfl) (fun _ _ _ h => h) (s0) (by rfl) ?_ ?_
          rotate_left
          · intro x hx; obtain ⟨u1, u2⟩ := hx; go_simp; try (with_reducible rfl)
          try simp only [Act.put, List.setIfInBounds_toArray, List.set_cons_zero, List.set_cons_succ, List.getElem_toArray, List.getElem_cons_zero, List.getElem_cons_succ]
          refine wpAnyZ_takeC (i := 7) (v := ?_) [14] rfl (by kernel_rfl) (by kernel_rfl) (by kernel_rfl) (by kernel_rfl) (by kernel_rfl) (by kernel_rfl) (fun _ _ _ h => h) (s0) (by rfl) ?_ ?_
          rotate_left
          · intro x hx; obtain ⟨u1, u2⟩ := hx; go_simp; try (with_reducible rfl)
          try simp only [Act.put, List.setIfInBounds_toArray, List.set_cons_zero, List.set_cons_succ, List.getElem_toArray, List.getElem_cons_zero, List.getElem_cons_succ]
          refine wpAnyZ_takeC (i := 8) (v := ?_) [14] rfl (by kernel_rfl) (by kernel_rfl) (by kernel_rfl) (by kernel_rfl) (by kernel_rfl) (by kernel_rfl) (fun _ _ _ h => h) (s0) (by rfl) ?_ ?_
          rotate_left
          · intro x hx; obtain ⟨u1, u2⟩ := hx; go_simp; try (with_reducible rfl)
          try simp only [Act.put, List.setIfInBounds_toArray, List.set_cons_zero, List.set_cons_succ, List.getElem_toArray, List.getElem_cons_zero, List.getElem_cons_succ]
          refine wpAnyZ_takeC (i := 9) (v := ?_) [14] rfl (by kernel_rfl) (by kernel_rfl) (by kernel_rfl) (by kernel_rfl) (by kernel_rfl) (by kernel_rfl) (fun _ _ _ h => h) (s0) (by rfl) ?_ ?_
          rotate_left
          · intro x hx; obtain ⟨u1, u2⟩ := hx; go_simp; try (with_reducible rfl)
          try simp only [Act.put, List.setIfInBounds_toArray, List.set_cons_zero, List.set_cons_succ, List.getElem_toArray, List.getElem_cons_zero, List.getElem_cons_succ]
          refine wpAnyZ_takeC (i := 10) (v := ?_) [14] rfl (by kernel_rfl) (by kernel_rfl) (by kernel_rfl) (by kernel_rfl) (by kernel_rfl) (by kernel_rfl) (fun _ _ _ h => h) (s0) (by rfl) ?_ ?_
          rotate_left
          · intro x hx; obtain ⟨u1, u2⟩ := hx; go_simp; try (with_reducible rfl)
          try simp only [Act.put, List.setIfInBounds_toArray, List.set_cons_zero, List.set_cons_succ, List.getElem_toArray, List.getElem_cons_zero, List.getElem_cons_succ]
          refine wpAnyZ_takeC (i := 11) (v := ?_) [14] rfl (by kernel_rfl) (by kernel_rfl) (by kernel_rfl) (by kernel_rfl) (by kernel_rfl) (by kernel_rfl) (fun _ _ _ h => h) (s0) (by rfl) ?_ ?_
          rotate_left
          · intro x hx; obtain ⟨u1, u2⟩ := hx; go_simp; try (with_reducible rfl)
          try simp only [Act.put, List.setIfInBounds_toArray, List.set_cons_zero, List.set_cons_succ, List.getElem_toArray, List.getElem_cons_zero, List.getElem_cons_succ]
          refine wpAnyZ_takeC (i := 12) (v := ?_) [14] rfl (by kernel_rfl) (by kernel_rfl) (by kernel_rfl) (by kernel_rfl) (by kernel_rfl) (by kernel_rfl) (fun _ _ _ h => h) (s0) (by rfl) ?_ ?_
          rotate_left
          · intro x hx; obtain ⟨u1, u2⟩ := hx; go_simp; try (with_reducible rfl)
          try simp only [Act.put, List.setIfInBounds_toArray, List.set_cons_zero, List.set_cons_succ, List.getElem_toArray, List.getElem_cons_zero, List.getElem_cons_succ]
          refine wpAnyZ_takeC (i := 13) (v := ?_) [14] rfl (by kernel_rfl) (by kernel_rfl) (by kernel_rfl) (by kernel_rfl) (by kernel_rfl) (by kernel_rfl) (fun _ _ _ h => h) (s0) (by rfl) ?_ ?_
          rotate_left
          · intro x hx; obtain ⟨u1, u2⟩ := hx; go_simp; try (with_reducible rfl)
          try simp only [Act.put, List.setIfInBounds_toArray, List.set_cons_zero, List.set_cons_succ, List.getElem_toArray, List.getElem_cons_zero, List.getElem_cons_succ]
          refine wpAnyZ_step (i := 14) (by kernel_rfl) rfl (by rfl) ?_
          intro KK hKK
          have F11 := Lib.hid (FD.out.putP HUX.out HRX.out (Kept.refl _ _) (v := .slice (some ⟨b, 0, none⟩) M c) (r' := barsOf l (setA S i)) (by
            have HOX2 := FD.out.mb.rows.own i _ _ HUX.out HRX.out
            have h9 := OwnBars.takeP (j := M) HOX2 (by have := HMN.out; omega)
            have h8 : (barsOf l r').take M = barsOf l (setA S i) := by rw [HX.out, HM2.out, List.take_left']; rfl
            rwa [h8] at h9) (.inl rfl))
          have c5 := s0.2
          go_simp
          refine hKK.out _ _ (.inl (by kernel_rfl)) ?_
          clear hKK KK
          try simp only [Act.put, List.setIfInBounds_toArray, List.set_cons_zero, List.set_cons_succ, List.getElem_toArray, List.getElem_cons_zero, List.getElem_cons_succ]
          refine wpAnyZ_done (by kernel_rfl) ?_ _
          clear s0 c5 fd zd FD hcut hsub
          generalize (wg.setCell ⟨A.pg, i, none⟩ (.slice (some ⟨b, 0, none⟩) M c)) = wh at *
          clear wg
          obtain ⟨ux2, rx2, hux, hrx, hox⟩ := F11.out.mo.rows.get (k := i) (by simp; omega)
          have hrx1 : rx2 = r' := by
            rw [List.getElem?_set_self (by omega)] at hrx
            exact (Option.some.inj hrx).symm
          subst hrx1
          have HRY := Lib.hid hrx
          have HUY := Lib.hid hux
          have cx := World.ownsRow.cellAt F11.out.mo.out i (by have := F11.out.mo.len; omega)
          rw [hux] at cx
          have hbx := rowBlk hox (by have := HRN.out; omega)
          obtain ⟨b2, c2, rfl, hnc, hcm, hb1, hb2⟩ := hbx
          clear hux hrx hox
          obtain ⟨M2, hM⟩ : ∃ M2, M2 = (setA S i).length := ⟨_, rfl⟩
          have HMN2 : Hid (rx2.length = M2 + 1) := Lib.hid (by rw [hM]; exact HRN.out)
          have HMM := Lib.hid hM
          clear hM
          have hcut := fun w => cutI (b := b2) (n := rx2.length) (j := M2) (c := c2) (by have := HMN2.out; omega) hnc hcm w
          have hsub : IntKind.i64.wrap ((rx2.length : Int) - 1) = (M2 : Int) := by
            rw [IntWalk.i64_in _ (by have := HMN2.out; have := HRN.out; omega)]
            have := HMN2.out
            omega
          have fx := F11.out.mo.froz i
          have zx := F11.out.mo.blk.1
          clear hb1 hb2 hnc hcm
          go_wp2_with fail
          have FD := Lib.hid (F11.out.below (w' := wh.drew) (Below.refl _ _).drew)
          have s0 : wh.drew.cell? ⟨A.oB, 0, none⟩ = some (.slice (some ⟨A.og, 0, none⟩) k A.oc) ∧ wh.drew.cell? ⟨A.og, i, none⟩ = some (.slice (some ⟨b2, 0, none⟩) rx2.length c2) := ⟨FD.out.co, cx⟩
          have fd : wh.drew.frozen? ⟨A.og, i, none⟩ = false := fx
          have zd : A.og < wh.drew.heap.size := zx
          refine wp_regionZ (fun w' => w'.cell? ⟨A.oB, 0, none⟩ = some (.slice (some ⟨A.og, 0, none⟩) k A.oc) ∧ w'.cell? ⟨A.og, i, none⟩ = some (.slice (some ⟨b2, 0, none⟩) rx2.length c2)) 14 (by kernel_rfl) ?_
          clear F11 cx fx zx
          generalize wh.drew = wg at *
          refine wpAnyZ_takeC (i := 0) (v := ?_) [14] rfl (by kernel_rfl) (by kernel_rfl) (by kernel_rfl) (by kernel_rfl) (by kernel_rfl) (by kernel_rfl) (fun _ _ _ h => h) (s0) (by rfl) ?_ ?_
          rotate_left
          · intro x hx; obtain ⟨u1, u2⟩ := hx; go_simp; try (with_reducible rfl)
          try simp only [Act.put, List.setIfInBounds_toArray, List.set_cons_zero, List.set_cons_succ, List.getElem_toArray, List.getElem_cons_zero, List.getElem_cons_succ]
          refine wpAnyZ_takeC (i := 1) (v := ?_) [14] rfl (by kernel_rfl) (by kernel_rfl) (by kernel_rfl) (by kernel_rfl) (by kernel_rfl) (by kernel_rfl) (fun _ _ _ h => h) (s0) (by rfl) ?_ ?_
          rotate_left
          · intro x hx; obtain ⟨u1, u2⟩ := hx; go_simp; try (with_reducible rfl)
          try simp only [Act.put, List.setIfInBounds_toArray, List.set_cons_zero, List.set_cons_succ, List.getElem_toArray, List.getElem_cons_zero, List.getElem_cons_succ]
          refine wpAnyZ_takeC (i := 2) (v := ?_) [14] rfl (by kernel_rfl) (by kernel_rfl) (by kernel_rfl) (by kernel_rfl) (by kernel_rfl) (by kernel_rfl) (fun _ _ _ h => h) (s0) (by rfl) ?_ ?_
          rotate_left
          · intro x hx; obtain ⟨u1, u2⟩ := hx; go_simp; try (with_reducible rfl)
          try simp only [Act.put, List.setIfInBounds_toArray, List.set_cons_zero, List.set_cons_succ, List.getElem_toArray, List.getElem_cons_zero, List.getElem_cons_succ]
          refine wpAnyZ_takeC (i := 3) (v := ?_) [14] rfl (by kernel_rfl) (by kernel_rfl) (by kernel_rfl) (by kernel_rfl) (by kernel_rfl) (by kernel_rfl) (fun _ _ _ h => h) (s0) (by rfl) ?_ ?_
          rotate_left
          · intro x hx; obtain ⟨u1, u2⟩ := hx; go_simp; try (with_reducible rfl)
          try simp only [Act.put, List.setIfInBounds_toArray, List.set_cons_zero, List.set_cons_succ, List.getElem_toArray, List.getElem_cons_zero, List.getElem_cons_succ]
          refine wpAnyZ_takeC (i := 4) (v := ?_) [14] rfl (by kernel_rfl) (by kernel_rfl) (by kernel_rfl) (by kernel_rfl) (by kernel_rfl) (by kernel_rfl) (fun _ _ _ h => h) (s0) (by rfl) ?_ ?_
          rotate_left
          · intro x hx; obtain ⟨u1, u2⟩ := hx; go_simp; try (with_reducible rfl)
          try simp only [Act.put, List.setIfInBounds_toArray, List.set_cons_zero, List.set_cons_succ, List.getElem_toArray, List.getElem_cons_zero, List.getElem_cons_succ]
          refine wpAnyZ_takeC (i := 5) (v := ?_) [14] rfl (by kernel_rfl) (by kernel_rfl) (by kernel_rfl) (by kernel_rfl) (by kernel_rfl) (by kernel_rfl) (fun _ _ _ h => h) (s0) (by rfl) ?_ ?_
          rotate_left
          · intro x hx; obtain ⟨u1, u2⟩ := hx; go_simp; try (with_reducible rfl)
          try simp only [Act.put, List.setIfInBounds_toArray, List.set_cons_zero, List.set_cons_succ, List.getElem_toArray, List.getElem_cons_zero, List.getElem_cons_succ]
          refine wpAnyZ_takeC (i := 6) (v := ?_) [14] rfl (by kernel_rfl) (by kernel_rfl) (by kernel_rfl) (by kernel_rfl) (by kernel_rfl) (by kernel_rfl) (fun _ _ _ h => h) (s0) (by rfl) ?_ ?_
          rotate_left
          · intro x hx; obtain ⟨u1, u2⟩ := hx; go_simp; try (with_reducible rfl)
          try simp only [Act.put, List.setIfInBounds_toArray, List.set_cons_zero, List.set_cons_succ, List.getElem_toArray, List.getElem_cons_zero, List.getElem_cons_succ]
          refine wpAnyZ_takeC (i := 7) (v := ?_) [14] rfl (by kernel_rfl) (by kernel_rfl) (by kernel_rfl) (by kernel_rfl) (by kernel_rfl) (by kernel_rfl) (fun _ _ _ h => h) (s0) (by rfl) ?_ ?_
          rotate_left
          · intro x hx; obtain ⟨u1, u2⟩ := hx; go_simp; try (with_reducible rfl)
          try simp only [Act.put, List.setIfInBounds_toArray, List.set_cons_zero, List.set_cons_succ, List.getElem_toArray, List.getElem_cons_zero, List.getElem_cons_succ]
          refine wpAnyZ_takeC (i := 8) (v := ?_) [14] rfl (by kernel_rfl) (by kernel_rfl) (by kernel_rfl) (by kernel_rfl) (by kernel_rfl) (by kernel_rfl) (fun _ _ _ h => h) (s0) (by rfl) ?_ ?_
          rotate_left
          · intro x hx; obtain ⟨u1, u2⟩ := hx; go_simp; try (with_reducible rfl)
          try simp only [Act.put, List.setIfInBounds_toArray, List.set_cons_zero, List.set_cons_succ, List.getElem_toArray, List.getElem_cons_zero, List.getElem_cons_succ]
          refine wpAnyZ_takeC (i := 9) (v := ?_) [14] rfl (by kernel_rfl) (by kernel_rfl) (by kernel_rfl) (by kernel_rfl) (by kernel_rfl) (by kernel_rfl) (fun _ _ _ h => h) (s0) (by rfl) ?_ ?_
          rotate_left
          · intro x hx; obtain ⟨u1, u2⟩ := hx; go_simp; try (with_reducible rfl)
          try simp only [Act.put, List.setIfInBounds_toArray, List.set_cons_zero, List.set_cons_succ, List.getElem_toArray, List.getElem_cons_zero, List.getElem_cons_succ]
          refine wpAnyZ_takeC (i := 10) (v := ?_) [14] rfl (by kernel_rfl) (by kernel_rfl) (by kernel_rfl) (by kernel_rfl) (by kernel_rfl) (by kernel_rfl) (fun _ _ _ h => h) (s0) (by rfl) ?_ ?_
          rotate_left
          · intro x hx; obtain ⟨u1, u2⟩ := hx; go_simp; try (with_reducible rfl)
          try simp only [Act.put, List.setIfInBounds_toArray, List.set_cons_zero, List.set_cons_succ, List.getElem_toArray, List.getElem_cons_zero, List.getElem_cons_succ]
          refine wpAnyZ_takeC (i := 11) (v := ?_) [14] rfl (by kernel_rfl) (by kernel_rfl) (by kernel_rfl) (by kernel_rfl) (by kernel_rfl) (by kernel_rfl) (fun _ _ _ h => h) (s0) (by rfl) ?_ ?_
          rotate_left
          · intro x hx; obtain ⟨u1, u2⟩ := hx; go_simp; try (with_reducible rfl)
          try simp only [Act.put, List.setIfInBounds_toArray, List.set_cons_zero, List.set_cons_succ, List.getElem_toArray, List.getElem_cons_zero, List.getElem_cons_succ]
          refine wpAnyZ_takeC (i := 12) (v := ?_) [14] rfl (by kernel_rfl) (by kernel_rfl) (by kernel_rfl) (by kernel_rfl) (by kernel_rfl) (by kernel_rfl) (fun _ _ _ h => h) (s0) (by rfl) ?_ ?_
          rotate_left
          · intro x hx; obtain ⟨u1, u2⟩ := hx; go_simp; try (with_reducible rfl)
          try simp only [Act.put, List.setIfInBounds_toArray, List.set_cons_zero, List.set_cons_succ, List.getElem_toArray, List.getElem_cons_zero, List.getElem_cons_succ]
          refine wpAnyZ_takeC (i := 13) (v := ?_) [14] rfl (by kernel_rfl) (by kernel_rfl) (by kernel_rfl) (by kernel_rfl) (by kernel_rfl) (by kernel_rfl) (fun _ _ _ h => h) (s0) (by rfl) ?_ ?_
          rotate_left
          · intro x hx; obtain ⟨u1, u2⟩ := hx; go_simp; try (with_reducible rfl)
          try simp only [Act.put, List.setIfInBounds_toArray, List.set_cons_zero, List.set_cons_succ, List.getElem_toArray, List.getElem_cons_zero, List.getElem_cons_succ]
          refine wpAnyZ_step (i := 14) (by kernel_rfl) rfl (by rfl) ?_
          intro KK hKK
          have F12 := Lib.hid (FD.out.putO HUY.out HRY.out (Kept.refl _ _) (v := .slice (some ⟨b2, 0, none⟩) M2 c2) (r' := setA S i) (by
            have HOX2 := FD.out.mo.rows.own i _ _ HUY.out HRY.out
            have h9 := OwnInts.takeI (j := M2) HOX2 (by have := HMN2.out; omega)
            have h8 : rx2.take M2 = setA S i := by rw [HR'.out, HMM.out, List.take_left']; rfl
            rwa [h8] at h9) (.inl rfl))
          have c5 := s0.2
          go_simp
          refine hKK.out _ _ (.inl (by kernel_rfl)) ?_
          clear hKK KK
          try simp only [Act.put, List.setIfInBounds_toArray, List.set_cons_zero, List.set_cons_succ, List.getElem_toArray, List.getElem_cons_zero, List.getElem_cons_succ]
          refine wpAnyZ_done (by kernel_rfl) ?_ _
          clear s0 c5 fd zd FD hcut hsub
          generalize (wg.setCell ⟨A.og, i, none⟩ (.slice (some ⟨b2, 0, none⟩) M2 c2)) = wh2 at *
          clear wg
          have HTT : Hid (∀ j, j < i + 1 → tryS (forF l) k d e S j = none) := Lib.hid fun j hj => by
            by_cases e1 : j = i
            · rw [e1]; exact HTRY.out
            · exact HN.out j (by omega)
          have HSS : Hid ((S.set i rx2).set i (setA S i) = S) := Lib.hid (by
            rw [List.set_set]
            refine List.ext_getElem? fun j => ?_
            by_cases e1 : i = j
            · subst e1
              rw [List.getElem?_set_self (by omega), setA_get (by omega)]
            · rw [List.getElem?_set_ne e1])
          have h9 := F12.out
          rw [← List.map_set, HSS.out] at h9
          have F13 := Lib.hid h9
          clear h9 F12
          go_wp2_with fail
          go_roundw
          case rel => exact ⟨i + 1, by omega, by go_num, HTT.out, _, _, F13.out⟩
          case measure => simp [intOf]; omega

        · have hadd := IntWalk.i64_in ((e : Int) + 1) (by omega)
          have HC2 := Lib.hid (IH.out (S.set i r') _ _ w9 (by have := HFD.out.2; omega) HOKA.out F9.out)
          rw [show ((e + 1 : Nat) : Int) = (e : Int) + 1 by omega] at HC2
          rw [hf] at HTR
          go_wp2_with fail
          refine hKK.out _ _ (.inr s9) ?_
          clear hKK KK
          try simp only [Act.put, List.setIfInBounds_toArray, List.set_cons_zero, List.set_cons_succ, List.getElem_toArray, List.getElem_cons_zero, List.getElem_cons_succ]
          refine wpAnyZ_takeC (i := 7) (v := ?_) [11] rfl (by kernel_rfl) (by kernel_rfl) (by kernel_rfl) (by kernel_rfl) (by kernel_rfl) (by kernel_rfl) (fun _ _ _ h => h) (s9) (by rfl) ?_ ?_
          rotate_left
          · intro x hx; obtain ⟨u1, u2, u3, u4⟩ := hx; go_simp; try (with_reducible rfl)
          try simp only [Act.put, List.setIfInBounds_toArray, List.set_cons_zero, List.set_cons_succ, List.getElem_toArray, List.getElem_cons_zero, List.getElem_cons_succ]
          refine wpAnyZ_takeC (i := 8) (v := ?_) [11] rfl (by kernel_rfl) (by kernel_rfl) (by kernel_rfl) (by kernel_rfl) (by kernel_rfl) (by kernel_rfl) (fun _ _ _ h => h) (s9) (by rfl) ?_ ?_
          rotate_left
          · intro x hx; obtain ⟨u1, u2, u3, u4⟩ := hx; go_simp; try (with_reducible rfl)
          try simp only [Act.put, List.setIfInBounds_toArray, List.set_cons_zero, List.set_cons_succ, List.getElem_toArray, List.getElem_cons_zero, List.getElem_cons_succ]
          refine wpAnyZ_takeC (i := 9) (v := ?_) [10, 11] rfl (by kernel_rfl) (by kernel_rfl) (by kernel_rfl) (by kernel_rfl) (by kernel_rfl) (by kernel_rfl) (fun _ _ _ h => h) (s9) (by rfl) ?_ ?_
          rotate_left
          · intro x hx; obtain ⟨u1, u2, u3, u4⟩ := hx; go_simp; try (with_reducible rfl)
          try simp only [Act.put, List.setIfInBounds_toArray, List.set_cons_zero, List.set_cons_succ, List.getElem_toArray, List.getElem_cons_zero, List.getElem_cons_succ]
          refine wpAnyZ_takeC (i := 10) (v := ?_) [11] rfl (by kernel_rfl) (by kernel_rfl) (by kernel_rfl) (by kernel_rfl) (by kernel_rfl) (by kernel_rfl) (fun _ _ _ h => h) (s9) (by rfl) ?_ ?_
          rotate_left
          · intro x hx; obtain ⟨u1, u2, u3, u4⟩ := hx; go_simp; try (with_reducible rfl)
          try simp only [Act.put, List.setIfInBounds_toArray, List.set_cons_zero, List.set_cons_succ, List.getElem_toArray, List.getElem_cons_zero, List.getElem_cons_succ]
          refine wpAnyZ_step (i := 11) (by kernel_rfl) rfl (by rfl) ?_
          intro KK hKK
          go_simp
          clear hadd s9
          cases hres : fillS (forF l) k d (e + 1) (S.set i r')
          · rw [hres] at HC2 HTR
            have HTRY : Hid (tryS (forF l) k d e S i = none) := Lib.hid (by rw [HTR.out]; rfl)
            clear hres F9
            go_at_call 49
            refine HC2.out.mono ?_
            rintro r w10 ⟨rfl, vs2, us2, m10⟩
            have F9 := Lib.hid m10
            clear m10 HC2
            go_wp2_with fail
            refine hKK.out _ _ (.inl (by kernel_rfl)) ?_
            clear hKK KK
            try simp only [Act.put, List.setIfInBounds_toArray, List.set_cons_zero, List.set_cons_succ, List.getElem_toArray, List.getElem_cons_zero, List.getElem_cons_succ]
            refine wpAnyZ_step (i := 12) (by kernel_rfl) rfl (by rfl) ?_
            intro KK hKK
            go_simp
            refine hKK.out _ _ (.inl (by kernel_rfl)) ?_
            clear hKK KK
            try simp only [Act.put, List.setIfInBounds_toArray, List.set_cons_zero, List.set_cons_succ, List.getElem_toArray, List.getElem_cons_zero, List.getElem_cons_succ]
            refine wpAnyZ_done (by kernel_rfl) ?_ _
            obtain ⟨ux, rx, hux, hrx, hox⟩ := F9.out.mb.rows.get (k := i) (by simp; omega)
            have hrx1 : rx = barsOf l r' := by
              rw [List.getElem?_map, List.getElem?_set_self (by omega)] at hrx
              exact (Option.some.inj hrx).symm
            subst hrx1
            have HRX := Lib.hid hrx
            have HUX := Lib.hid hux
            have cx := World.ownsRow.cellAt F9.out.mb.out i (by have := F9.out.mb.len; omega)
            rw [hux] at cx
            have hbx := rowBlk hox (by have := HBN.out; omega)
            obtain ⟨b, c, rfl, hnc, hcm, hb1, hb2⟩ := hbx
            have HOX := Lib.hid hox
            clear hux hrx hox
            obtain ⟨M, hM⟩ : ∃ M, M = (barsOf l (setA S i)).length := ⟨_, rfl⟩
            have HMN : Hid ((barsOf l r').length = M + 1) := Lib.hid (by rw [hM, HBL.out]; exact HBN.out)
            have HM2 := Lib.hid hM
            clear hM
            have hcut := fun w => cutP (b := b) (n := (barsOf l r').length) (j := M) (c := c) (by have := HMN.out; omega) hnc hcm w
            have hsub : IntKind.i64.wrap (((barsOf l r').length : Int) - 1) = (M : Int) := by
              rw [IntWalk.i64_in _ (by have := HMN.out; have := HBN.out; omega)]
              have := HMN.out
              omega
            have fx := F9.out.mb.froz i
            have zx := F9.out.mb.blk.1
            clear hb1 hb2 hnc hcm
            go_wp2_with fail
            have FD := Lib.hid (F9.out.below (w' := w10.drew) (Below.refl _ _).drew)
            have s0 : w10.drew.cell? ⟨A.pB, 0, none⟩ = some (.slice (some ⟨A.pg, 0, none⟩) k A.pc) ∧ w10.drew.cell? ⟨A.pg, i, none⟩ = some (.slice (some ⟨b, 0, none⟩) (barsOf l r').length c) := ⟨FD.out.cp, cx⟩
            have fd : w10.drew.frozen? ⟨A.pg, i, none⟩ = false := fx
            have zd : A.pg < w10.drew.heap.size := zx
            refine wp_regionZ (fun w' => w'.cell? ⟨A.pB, 0, none⟩ = some (.slice (some ⟨A.pg, 0, none⟩) k A.pc) ∧ w'.cell? ⟨A.pg, i, none⟩ = some (.slice (some ⟨b, 0, none⟩) (barsOf l r').length c)) 14 (by kernel_rfl) ?_
            clear F9 cx fx zx
            generalize w10.drew = wg at *
            refine wpAnyZ_takeC (i := 0) (v := ?_) [14] rfl (by kernel_rfl) (by kernel_rfl) (by kernel_rfl) (by kernel_rfl) (by kernel_rfl) (by kernel_rfl) (fun _ _ _ h => h) (s0) (by rfl) ?_ ?_
            rotate_left
            · intro x hx; obtain ⟨u1, u2⟩ := hx; go_simp; try (with_reducible rfl)
            try simp only [Act.put, List.setIfInBounds_toArray, List.set_cons_zero, List.set_cons_succ, List.getElem_toArray, List.getElem_cons_zero, List.getElem_cons_succ]
            refine wpAnyZ_takeC (i := 1) (v := ?_) [14] rfl (by kernel_rfl) (by kernel_rfl) (by kernel_rfl) (by kernel_rfl) (by kernel_rfl) (by kernel_rfl) (fun _ _ _ h => h) (s0) (by rfl) ?_ ?_
            rotate_left
            · intro x hx; obtain ⟨u1, u2⟩ := hx; go_simp; try (with_reducible rfl)
            try simp only [Act.put, List.setIfInBounds_toArray, List.set_cons_zero, List.set_cons_succ, List.getElem_toArray, List.getElem_cons_zero, List.getElem_cons_succ]
            refine wpAnyZ_takeC (i := 2) (v := ?_) [14] rfl (by kernel_rfl) (by kernel_rfl) (by kernel_rfl) (by kernel_rfl) (by kernel_rfl) (by kernel_rfl) (fun _ _ _ h => h) (s0) (by rfl) ?_ ?_
            rotate_left
            · intro x hx; obtain ⟨u1, u2⟩ := hx; go_simp; try (with_reducible rfl)
            try simp only [Act.put, List.setIfInBounds_toArray, List.set_cons_zero, List.set_cons_succ, List.getElem_toArray, List.getElem_cons_zero, List.getElem_cons_succ]
            refine wpAnyZ_takeC (i := 3) (v := ?_) [14] rfl (by kernel_rfl) (by kernel_rfl) (by kernel_rfl) (by kernel_rfl) (by kernel_rfl) (by kernel_rfl) (fun _ _ _ h => h) (s0) (by rfl) ?_ ?_
            rotate_left
            · intro x hx; obtain ⟨u1, u2⟩ := hx; go_simp; try (with_reducible rfl)
            try simp only [Act.put, List.setIfInBounds_toArray, List.set_cons_zero, List.set_cons_succ, List.getElem_toArray, List.getElem_cons_zero, List.getElem_cons_succ]
            refine wpAnyZ_takeC (i := 4) (v := ?_) [14] rfl (by kernel_rfl) (by kernel_rfl) (by kernel_rfl) (by kernel_rfl) (by kernel_rfl) (by kernel_rfl) (fun _ _ _ h => h) (s0) (by rfl) ?_ ?_
            rotate_left
            · intro x hx; obtain ⟨u1, u2⟩ := hx; go_simp; try (with_reducible rfl)
            try simp only [Act.put, List.setIfInBounds_toArray, List.set_cons_zero, List.set_cons_succ, List.getElem_toArray, List.getElem_cons_zero, List.getElem_cons_succ]
            refine wpAnyZ_takeC (i := 5) (v := ?_) [14] rfl (by kernel_rfl) (by kernel_rfl) (by kernel_rfl) (by kernel_rfl) (by kernel_rfl) (by kernel_rfl) (fun _ _ _ h => h) (s0) (by rfl) ?_ ?_
            rotate_left
            · intro x hx; obtain ⟨u1, u2⟩ := hx; go_simp; try (with_reducible rfl)
            try simp only [Act.put, List.setIfInBounds_toArray, List.set_cons_zero, List.set_cons_succ, List.getElem_toArray, List.getElem_cons_zero, List.getElem_cons_succ]
            refine wpAnyZ_takeC (i := 6) (v := ?_) [14] rfl (by kernel_rfl) (by kernel_rfl) (by kernel_rfl) (by kernel_rfl) (by kernel_rfl) (by kernel_rfl) (fun _ _ _ h => h) (s0) (by rfl) ?_ ?_
            rotate_left
            · intro x hx; obtain ⟨u1, u2⟩ := hx; go_simp; try (with_reducible rfl)
            try simp only [Act.put, List.setIfInBounds_toArray, List.set_cons_zero, List.set_cons_succ, List.getElem_toArray, List.getElem_cons_zero, List.getElem_cons_succ]
            refine wpAnyZ_takeC (i := 7) (v := ?_) [14] rfl (by kernel_rfl) (by kernel_rfl) (by kernel_rfl) (by kernel_rfl) (by kernel_rfl) (by kernel_rfl) (fun _ _ _ h => h) (s0) (by rfl) ?_ ?_
            rotate_left
            · intro x hx; obtain ⟨u1, u2⟩ := hx; go_simp; try (with_reducible rfl)
            try simp only [Act.put, List.setIfInBounds_toArray, List.set_cons_zero, List.set_cons_succ, List.getElem_toArray, List.getElem_cons_zero, List.getElem_cons_succ]
            refine wpAnyZ_takeC (i := 8) (v := ?_) [14] rfl (by kernel_rfl) (by kernel_rfl) (by kernel_rfl) (by kernel_rfl) (by kernel_rfl) (by kernel_rfl) (fun _ _ _ h => h) (s0) (by rfl) ?_ ?_
            rotate_left
            · intro x hx; obtain ⟨u1, u2⟩ := hx; go_simp; try (with_reducible rfl)
            try simp only [Act.put, List.setIfInBounds_toArray, List.set_cons_zero, List.set_cons_succ, List.getElem_toArray, List.getElem_cons_zero, List.getElem_cons_succ]
            refine wpAnyZ_takeC (i := 9) (v := ?_) [14] rfl (by kernel_rfl) (by kernel_rfl) (by kernel_rfl) (by kernel_rfl) (by kernel_rfl) (by kernel_rfl) (fun _ _ _ h => h) (s0) (by rfl) ?_ ?_
            rotate_left
            · intro x hx; obtain ⟨u1, u2⟩ := hx; go_simp; try (with_reducible rfl)
            try simp only [Act.put, List.setIfInBounds_toArray, List.set_cons_zero, List.set_cons_succ, List.getElem_toArray, List.getElem_cons_zero, List.getElem_cons_succ]
            refine wpAnyZ_takeC (i := 10) (v := ?_) [14] rfl (by kernel_rfl) (by kernel_rfl) (by kernel_rfl) (by kernel_rfl) (by kernel_rfl) (by kernel_rfl) (fun _ _ _ h => h) (s0) (by rfl) ?_ ?_
            rotate_left
            · intro x hx; obtain ⟨u1, u2⟩ := hx; go_simp; try (with_reducible rfl)
            try simp only [Act.put, List.setIfInBounds_toArray, List.set_cons_zero, List.set_cons_succ, List.getElem_toArray, List.getElem_cons_zero, List.getElem_cons_succ]
            refine wpAnyZ_takeC (i := 11) (v := ?_) [14] rfl (by kernel_rfl) (by kernel_rfl) (by kernel_rfl) (by kernel_rfl) (by kernel_rfl) (by kernel_rfl) (fun _ _ _ h => h) (s0) (by rfl) ?_ ?_
            rotate_left
            · intro x hx; obtain ⟨u1, u2⟩ := hx; go_simp; try (with_reducible rfl)
            try simp only [Act.put, List.setIfInBounds_toArray, List.set_cons_zero, List.set_cons_succ, List.getElem_toArray, List.getElem_cons_zero, List.getElem_cons_succ]
            refine wpAnyZ_takeC (i := 12) (v := ?_) [14] rfl (by kernel_rfl) (by kernel_rfl) (by kernel_rfl) (by kernel_rfl) (by kernel_rfl) (by kernel_rfl) (fun _ _ _ h => h) (s0) (by rfl) ?_ ?_
            rotate_left
            · intro x hx; obtain ⟨u1, u2⟩ := hx; go_simp; try (with_reducible rfl)
            try simp only [Act.put, List.setIfInBounds_toArray, List.set_cons_zero, List.set_cons_succ, List.getElem_toArray, List.getElem_cons_zero, List.getElem_cons_succ]
            refine wpAnyZ_takeC (i := 13) (v := ?_) [14] rfl (by kernel_rfl) (by kernel_rfl) (by kernel_rfl) (by kernel_rfl) (by kernel_rfl) (by kernel_rfl) (fun _ _ _ h => h) (s0) (by rfl) ?_ ?_
            rotate_left
            · intro x hx; obtain ⟨u1, u2⟩ := hx; go_simp; try (with_reducible rfl)
            try simp only [Act.put, List.setIfInBounds_toArray, List.set_cons_zero, List.set_cons_succ, List.getElem_toArray, List.getElem_cons_zero, List.getElem_cons_succ]
            refine wpAnyZ_step (i := 14) (by kernel_rfl) rfl (by rfl) ?_
            intro KK hKK
            have F11 := Lib.hid (FD.out.putP HUX.out HRX.out (Kept.refl _ _) (v := .slice (some ⟨b, 0, none⟩) M c) (r' := barsOf l (setA S i)) (by
              have HOX2 := FD.out.mb.rows.own i _ _ HUX.out HRX.out
              have h9 := OwnBars.takeP (j := M) HOX2 (by have := HMN.out; omega)
              have h8 : (barsOf l r').take M = barsOf l (setA S i) := by rw [HX.out, HM2.out, List.take_left']; rfl
              rwa [h8] at h9) (.inl rfl))
            have c5 := s0.2
            go_simp
            refine hKK.out _ _ (.inl (by kernel_rfl)) ?_
            clear hKK KK
            try simp only [Act.put, List.setIfInBounds_toArray, List.set_cons_zero, List.set_cons_succ, List.getElem_toArray, List.getElem_cons_zero, List.getElem_cons_succ]
            refine wpAnyZ_done (by kernel_rfl) ?_ _
            clear s0 c5 fd zd FD hcut hsub
            generalize (wg.setCell ⟨A.pg, i, none⟩ (.slice (some ⟨b, 0, none⟩) M c)) = wh at *
            clear wg
            obtain ⟨ux2, rx2, hux, hrx, hox⟩ := F11.out.mo.rows.get (k := i) (by simp; omega)
            have hrx1 : rx2 = r' := by
              rw [List.getElem?_set_self (by omega)] at hrx
              exact (Option.some.inj hrx).symm
            subst hrx1
            have HRY := Lib.hid hrx
            have HUY := Lib.hid hux
            have cx := World.ownsRow.cellAt F11.out.mo.out i (by have := F11.out.mo.len; omega)
            rw [hux] at cx
            have hbx := rowBlk hox (by have := HRN.out; omega)
            obtain ⟨b2, c2, rfl, hnc, hcm, hb1, hb2⟩ := hbx
            clear hux hrx hox
            obtain ⟨M2, hM⟩ : ∃ M2, M2 = (setA S i).length := ⟨_, rfl⟩
            have HMN2 : Hid (rx2.length = M2 + 1) := Lib.hid (by rw [hM]; exact HRN.out)
            have HMM := Lib.hid hM
            clear hM
            have hcut := fun w => cutI (b := b2) (n := rx2.length) (j := M2) (c := c2) (by have := HMN2.out; omega) hnc hcm w
            have hsub : IntKind.i64.wrap ((rx2.length : Int) - 1) = (M2 : Int) := by
              rw [IntWalk.i64_in _ (by have := HMN2.out; have := HRN.out; omega)]
              have := HMN2.out
              omega
            have fx := F11.out.mo.froz i
            have zx := F11.out.mo.blk.1
            clear hb1 hb2 hnc hcm
            go_wp2_with fail
            have FD := Lib.hid (F11.out.below (w' := wh.drew) (Below.refl _ _).drew)
            have s0 : wh.drew.cell? ⟨A.oB, 0, none⟩ = some (.slice (some ⟨A.og, 0, none⟩) k A.oc) ∧ wh.drew.cell? ⟨A.og, i, none⟩ = some (.slice (some ⟨b2, 0, none⟩) rx2.length c2) := ⟨FD.out.co, cx⟩
            have fd : wh.drew.frozen? ⟨A.og, i, none⟩ = false := fx
            have zd : A.og < wh.drew.heap.size := zx
            refine wp_regionZ (fun w' => w'.cell? ⟨A.oB, 0, none⟩ = some (.slice (some ⟨A.og, 0, none⟩) k A.oc) ∧ w'.cell? ⟨A.og, i, none⟩ = some (.slice (some ⟨b2, 0, none⟩) rx2.length c2)) 14 (by kernel_rfl) ?_
            clear F11 cx fx zx
            generalize wh.drew = wg at *
            refine wpAnyZ_takeC (i := 0) (v := ?_) [14] rfl (by kernel_rfl) (by kernel_rfl) (by kernel_rfl) (by kernel_rfl) (by kernel_rfl) (by kernel_rfl) (fun _ _ _ h => h) (s0) (by rfl) ?_ ?_
            rotate_left
            · intro x hx; obtain ⟨u1, u2⟩ := hx; go_simp; try (with_reducible rfl)
            try simp only [Act.put, List.setIfInBounds_toArray, List.set_cons_zero, List.set_cons_succ, List.getElem_toArray, List.getElem_cons_zero, List.getElem_cons_succ]
            refine wpAnyZ_takeC (i := 1) (v := ?_) [14] rfl (by kernel_rfl) (by kernel_rfl) (by kernel_rfl) (by kernel_rfl) (by kernel_rfl) (by kernel_rfl) (fun _ _ _ h => h) (s0) (by rfl) ?_ ?_
            rotate_left
            · intro x hx; obtain ⟨u1, u2⟩ := hx; go_simp; try (with_reducible rfl)
            try simp only [Act.put, List.setIfInBounds_toArray, List.set_cons_zero, List.set_cons_succ, List.getElem_toArray, List.getElem_cons_zero, List.getElem_cons_succ]
            refine wpAnyZ_takeC (i := 2) (v := ?_) [14] rfl (by kernel_rfl) (by kernel_rfl) (by kernel_rfl) (by kernel_rfl) (by kernel_rfl) (by kernel_rfl) (fun _ _ _ h => h) (s0) (by rfl) ?_ ?_
            rotate_left
            · intro x hx; obtain ⟨u1, u2⟩ := hx; go_simp; try (with_reducible rfl)
            try simp only [Act.put, List.setIfInBounds_toArray, List.set_cons_zero, List.set_cons_succ, List.getElem_toArray, List.getElem_cons_zero, List.getElem_cons_succ]
            refine wpAnyZ_takeC (i := 3) (v := ?_) [14] rfl (by kernel_rfl) (by kernel_rfl) (by kernel_rfl) (by kernel_rfl) (by kernel_rfl) (by kernel_rfl) (fun _ _ _ h => h) (s0) (by rfl) ?_ ?_
            rotate_left
            · intro x hx; obtain ⟨u1, u2⟩ := hx; go_simp; try (with_reducible rfl)
            try simp only [Act.put, List.setIfInBounds_toArray, List.set_cons_zero, List.set_cons_succ, List.getElem_toArray, List.getElem_cons_zero, List.getElem_cons_succ]
            refine wpAnyZ_takeC (i := 4) (v := ?_) [14] rfl (by kernel_rfl) (by kernel_rfl) (by kernel_rfl) (by kernel_rfl) (by kernel_rfl) (by kernel_rfl) (fun _ _ _ h => h) (s0) (by rfl) ?_ ?_
            rotate_left
            · intro x hx; obtain ⟨u1, u2⟩ := hx; go_simp; try (with_reducible rfl)
            try simp only [Act.put, List.setIfInBounds_toArray, List.set_cons_zero, List.set_cons_succ, List.getElem_toArray, List.getElem_cons_zero, List.getElem_cons_succ]
            refine wpAnyZ_takeC (i := 5) (v := ?_) [14] rfl (by kernel_rfl) (by kernel_rfl) (by kernel_rfl) (by kernel_rfl) (by kernel_rfl) (by kernel_rfl) (fun _ _ _ h => h) (s0) (by rfl) ?_ ?_
            rotate_left
            · intro x hx; obtain ⟨u1, u2⟩ := hx; go_simp; try (with_reducible rfl)
            try simp only [Act.put, List.setIfInBounds_toArray, List.set_cons_zero, List.set_cons_succ, List.getElem_toArray, List.getElem_cons_zero, List.getElem_cons_succ]
            refine wpAnyZ_takeC (i := 6) (v := ?_) [14] rfl (by kernel_rfl) (by kernel_rfl) (by kernel_rfl) (by kernel_rfl) (by kernel_rfl) (by kernel_rfl) (fun _ _ _ h => h) (s0) (by rfl) ?_ ?_
            rotate_left
            · intro x hx; obtain ⟨u1, u2⟩ := hx; go_simp; try (with_reducible rfl)
            try simp only [Act.put, List.setIfInBounds_toArray, List.set_cons_zero, List.set_cons_succ, List.getElem_toArray, List.getElem_cons_zero, List.getElem_cons_succ]
            refine wpAnyZ_takeC (i := 7) (v := ?_) [14] rfl (by kernel_rfl) (by kernel_rfl) (by kernel_rfl) (by kernel_rfl) (by kernel_rfl) (by kernel_rfl) (fun _ _ _ h => h) (s0) (by rfl) ?_ ?_
            rotate_left
            · intro x hx; obtain ⟨u1, u2⟩ := hx; go_simp; try (with_reducible rfl)
            try simp only [Act.put, List.setIfInBounds_toArray, List.set_cons_zero, List.set_cons_succ, List.getElem_toArray, List.getElem_cons_zero, List.getElem_cons_succ]
            refine wpAnyZ_takeC (i := 8) (v := ?_) [14] rfl (by kernel_rfl) (by kernel_rfl) (by kernel_rfl) (by kernel_rfl) (by kernel_rfl) (by kernel_rfl) (fun _ _ _ h => h) (s0) (by rfl) ?_ ?_
            rotate_left
            · intro x hx; obtain ⟨u1, u2⟩ := hx; go_simp; try (with_reducible rfl)
            try simp only [Act.put, List.setIfInBounds_toArray, List.set_cons_zero, List.set_cons_succ, List.getElem_toArray, List.getElem_cons_zero, List.getElem_cons_succ]
            refine wpAnyZ_takeC (i := 9) (v := ?_) [14] rfl (by kernel_rfl) (by kernel_rfl) (by kernel_rfl) (by kernel_rfl) (by kernel_rfl) (by kernel_rfl) (fun _ _ _ h => h) (s0) (by rfl) ?_ ?_
            rotate_left
            · intro x hx; obtain ⟨u1, u2⟩ := hx; go_simp; try (with_reducible rfl)
            try simp only [Act.put, List.setIfInBounds_toArray, List.set_cons_zero, List.set_cons_succ, List.getElem_toArray, List.getElem_cons_zero, List.getElem_cons_succ]
            refine wpAnyZ_takeC (i := 10) (v := ?_) [14] rfl (by kernel_rfl) (by kernel_rfl) (by kernel_rfl) (by kernel_rfl) (by kernel_rfl) (by kernel_rfl) (fun _ _ _ h => h) (s0) (by rfl) ?_ ?_
            rotate_left
            · intro x hx; obtain ⟨u1, u2⟩ := hx; go_simp; try (with_reducible rfl)
            try simp only [Act.put, List.setIfInBounds_toArray, List.set_cons_zero, List.set_cons_succ, List.getElem_toArray, List.getElem_cons_zero, List.getElem_cons_succ]
            refine wpAnyZ_takeC (i := 11) (v := ?_) [14] rfl (by kernel_rfl) (by kernel_rfl) (by kernel_rfl) (by kernel_rfl) (by kernel_rfl) (by kernel_rfl) (fun _ _ _ h => h) (s0) (by rfl) ?_ ?_
            rotate_left
            · intro x hx; obtain ⟨u1, u2⟩ := hx; go_simp; try (with_reducible rfl)
            try simp only [Act.put, List.setIfInBounds_toArray, List.set_cons_zero, List.set_cons_succ, List.getElem_toArray, List.getElem_cons_zero, List.getElem_cons_succ]
            refine wpAnyZ_takeC (i := 12) (v := ?_) [14] rfl (by kernel_rfl) (by kernel_rfl) (by kernel_rfl) (by kernel_rfl) (by kernel_rfl) (by kernel_rfl) (fun _ _ _ h => h) (s0) (by rfl) ?_ ?_
            rotate_left
            · intro x hx; obtain ⟨u1, u2⟩ := hx; go_simp; try (with_reducible rfl)
            try simp only [Act.put, List.setIfInBounds_toArray, List.set_cons_zero, List.set_cons_succ, List.getElem_toArray, List.getElem_cons_zero, List.getElem_cons_succ]
            refine wpAnyZ_takeC (i := 13) (v := ?_) [14] rfl (by kernel_rfl) (by kernel_rfl) (by kernel_rfl) (by kernel_rfl) (by kernel_rfl) (by kernel_rfl) (fun _ _ _ h => h) (s0) (by rfl) ?_ ?_
            rotate_left
            · intro x hx; obtain ⟨u1, u2⟩ := hx; go_simp; try (with_reducible rfl)
            try simp only [Act.put, List.setIfInBounds_toArray, List.set_cons_zero, List.set_cons_succ, List.getElem_toArray, List.getElem_cons_zero, List.getElem_cons_succ]
            refine wpAnyZ_step (i := 14) (by kernel_rfl) rfl (by rfl) ?_
            intro KK hKK
            have F12 := Lib.hid (FD.out.putO HUY.out HRY.out (Kept.refl _ _) (v := .slice (some ⟨b2, 0, none⟩) M2 c2) (r' := setA S i) (by
              have HOX2 := FD.out.mo.rows.own i _ _ HUY.out HRY.out
              have h9 := OwnInts.takeI (j := M2) HOX2 (by have := HMN2.out; omega)
              have h8 : rx2.take M2 = setA S i := by rw [HR'.out, HMM.out, List.take_left']; rfl
              rwa [h8] at h9) (.inl rfl))
            have c5 := s0.2
            go_simp
            refine hKK.out _ _ (.inl (by kernel_rfl)) ?_
            clear hKK KK
            try simp only [Act.put, List.setIfInBounds_toArray, List.set_cons_zero, List.set_cons_succ, List.getElem_toArray, List.getElem_cons_zero, List.getElem_cons_succ]
            refine wpAnyZ_done (by kernel_rfl) ?_ _
            clear s0 c5 fd zd FD hcut hsub
            generalize (wg.setCell ⟨A.og, i, none⟩ (.slice (some ⟨b2, 0, none⟩) M2 c2)) = wh2 at *
            clear wg
            have HTT : Hid (∀ j, j < i + 1 → tryS (forF l) k d e S j = none) := Lib.hid fun j hj => by
              by_cases e1 : j = i
              · rw [e1]; exact HTRY.out
              · exact HN.out j (by omega)
            have HSS : Hid ((S.set i rx2).set i (setA S i) = S) := Lib.hid (by
              rw [List.set_set]
              refine List.ext_getElem? fun j => ?_
              by_cases e1 : i = j
              · subst e1
                rw [List.getElem?_set_self (by omega), setA_get (by omega)]
              · rw [List.getElem?_set_ne e1])
            have h9 := F12.out
            rw [← List.map_set, HSS.out] at h9
            have F13 := Lib.hid h9
            clear h9 F12
            go_wp2_with fail
            go_roundw
            case rel => exact ⟨i + 1, by omega, by go_num, HTT.out, _, _, F13.out⟩
            case measure => simp [intOf]; omega

          · rename_i S2
            rw [hres] at HC2 HTR
            have HEND : Hid (R = some S2) := Lib.hid (by
              rw [hFS.out]
              exact firstS_hit HN.out (by rw [HTR.out]; rfl) k hik)
            clear hres F9
            go_at_call 49
            refine HC2.out.mono ?_
            rintro r w10 ⟨rfl, vs2, us2, m10⟩
            have F9 := Lib.hid m10
            clear m10 HC2
            go_wp2_with fail
            refine hKK.out _ _ (.inl (by kernel_rfl)) ?_
            clear hKK KK
            try simp only [Act.put, List.setIfInBounds_toArray, List.set_cons_zero, List.set_cons_succ, List.getElem_toArray, List.getElem_cons_zero, List.getElem_cons_succ]
            refine wpAnyZ_step (i := 12) (by kernel_rfl) rfl (by rfl) ?_
            intro KK hKK
            go_simp
            refine hKK.out _ _ (.inl (by kernel_rfl)) ?_
            clear hKK KK
            try simp only [Act.put, List.setIfInBounds_toArray, List.set_cons_zero, List.set_cons_succ, List.getElem_toArray, List.getElem_cons_zero, List.getElem_cons_succ]
            refine wpAnyZ_done (by kernel_rfl) ?_ _
            go_wp2_with fail
            go_ret
            exact RetFil.yes HEND.out F9.out
      · obtain rfl : i = k := by omega
        have HEND : Hid (R = none) := Lib.hid (by rw [hFS.out]; exact firstS_none i HN.out)
        clear hik hi
        have hnl : decide ((i : Int) < (i : Int)) = false := by simp
        go_wp2_with fail
        go_ret
        exact RetFil.no HEND.out F.out
end Go.Proofs.YtfbmpkdjhhcnpaaGreat

namespace Go.Proofs.YtfbmpkdjhhcnpaaGreat
open Go.RowKit
set_option maxRecDepth 100000
set_option linter.unusedVariables false
set_option linter.unusedSimpArgs false
theorem pow8 {P : Nat} (h : P ≤ 8) : 1 ≤ 2 ^ P ∧ 2 ^ P ≤ 256 := ⟨Nat.one_le_two_pow, Nat.pow_le_pow_right (by decide) h⟩
def RetOv (W : World) (b : Bool) (e : Ending) (w' : World) : Prop := (∃ v, e = .returned (.tuple #[v, .bool b])) ∧ Below W.heap.size W w'
set_option maxHeartbeats 4000000 in
theorem specOvc_at (W : World) (p : Int) (a : Option Addr) (cap : Nat) (l : List BarT) (h : BarsAt W a l.length l) (hs : l.length ≤ 1048576) (k r : Int) :
    Calls Tryz.prog 102 #[.agg #[.int .i64 p, .slice a l.length cap], .int .i64 k, .int .i64 r] W (RetOv W (ovcB (p, l) k r)) := by
  have hwd := @Wd.cells
  have HGr : Hid (IsGraph W (.agg #[.int .i64 p, .slice a l.length cap]) (p, l)) := Lib.hid ⟨a, cap, rfl, h⟩
  have H1 := Lib.hid h
  clear h
  have hsz : szGraph (p, l) ≤ 1048576 := hs
  have hsz2 : szGraph (p, l) ≤ 1099511627776 := Nat.le_trans hsz (by decide)
  have B : Below W.heap.size W (W.alloc (.cells #[.int .i64 p, .slice a l.length cap] 26)) := (Below.refl _ _).alloc (Nat.le_refl _) _
  have BG : Hid (BoxGr (W.alloc (.cells #[.int .i64 p, .slice a l.length cap] 26)) W.heap.size p a l.length cap) := Lib.hid (BoxGr.at rfl)
  have HCG : Hid (∀ w1 : World, Below W.heap.size W w1 → Calls Tryz.prog 51 #[.agg #[.int .i64 p, .slice a l.length cap]] w1 fun e w' => e = .returned (.bool (isGraphB (p, l))) ∧ Below w1.heap.size w1 w') := Lib.hid fun w1 b => spec_IsGraph_is w1 _ (p, l) (HGr.out.below b) hsz2
  go_enter Tryz.func102, Tryz.ntmps102
  go_wp2_with fail
  generalize (W.alloc (.cells #[.int .i64 p, .slice a l.length cap] 26)) = u at *
  refine (HCG.out _ B).mono ?_
  rintro e w1 ⟨rfl, b⟩
  have hz1 := b.size
  replace B := B.step b
  replace BG := Lib.hid (BG.out.below b)
  clear b
  cases hg : isGraphB (p, l)
  · have HE := Lib.hid (show ovcB (p, l) k r = false by unfold ovcB; rw [hg]; rfl)
    go_wp2_with fail
    go_ret2
    rw [HE.out]
    exact ⟨⟨_, rfl⟩, B.step (belAl _ _)⟩
  have HCR := Lib.hid (specRange_any k r w1)
  cases hr : rangeB k r
  · have HE := Lib.hid (show ovcB (p, l) k r = false by unfold ovcB; rw [hr, Bool.and_false]; rfl)
    go_wp2_with (go_at_call 71; refine HCR.out.mono ?_; rintro e w2 ⟨rfl, b⟩; rw [hr]; have hz2 := b.size; replace B := B.step b; replace BG := Lib.hid (BG.out.below b); clear b)
    go_ret2
    rw [HE.out]
    exact ⟨⟨_, rfl⟩, B.step (belAl _ _)⟩
  obtain ⟨⟨hg1, hg2⟩, _⟩ := isGraphB_bd hg
  obtain ⟨P, rfl⟩ := Int.eq_ofNat_of_zero_le (show 0 ≤ p by omega)
  have hP : P ≤ 8 := by omega
  have HR := Lib.hid (isGraphB_ends hg)
  have HO : Hid (ovcB ((P : Int), l) k r = overB P l k r) := Lib.hid (by unfold ovcB; rw [hg, hr]; rfl)
  obtain ⟨hQ1, hQ2⟩ := pow8 hP
  have hkr : (1 ≤ k ∧ k ≤ 3) ∧ 0 ≤ r ∧ r ≤ 5 := by
    unfold rangeB inB at hr
    simp only [Bool.and_eq_true, decide_eq_true_eq] at hr
    omega
  obtain ⟨Q, hQ⟩ : ∃ Q, Q = 2 ^ P := ⟨_, rfl⟩
  have hsh : wrap64 ((2 : Int) ^ P) = (Q : Int) := by
    have e : ((2 : Int) ^ P) = ((2 ^ P : Nat) : Int) := by rw [Int.natCast_pow]; rfl
    rw [e, ← hQ]
    exact IntWalk.wrap64_in _ (by omega)
  have HNO : Hid (∀ m, m < Q → overAt P l k r m = true → overB P l k r = true) := Lib.hid fun m hm h => overB_yes (by omega) h
  have HNA : Hid ((∀ m, m < Q → overAt P l k r m = false) → overB P l k r = false) := Lib.hid fun h => overB_no fun m hm => h m (by omega)
  rw [← hQ] at hQ1 hQ2
  clear hQ
  go_wp2_with (go_at_call 71; refine HCR.out.mono ?_; rintro e w2 ⟨rfl, b⟩; rw [hr]; have hz2 := b.size; replace B := B.step b; replace BG := Lib.hid (BG.out.below b); clear b)
  have HN0 : Hid (∀ q, q < 1 → overAt P l k r q = false) := Lib.hid fun q hq => by
    rw [show q = 0 by omega]
    exact overAt_zero P l k r
  go_loopw [8] (fun i w9 => ∃ m : Nat, 1 ≤ m ∧ m ≤ Q ∧ i = .int .i64 m ∧ (∀ q, q < m → overAt P l k r q = false) ∧ Below W.heap.size W w9 ∧ BoxGr w9 W.heap.size P a l.length cap) (fun i _ => Q - (intOf i).toNat)
  case atStart => exact ⟨1, Nat.le_refl _, hQ1, rfl, HN0.out, B, BG.out⟩
  case round =>
    clear B BG
    obtain ⟨m, hm1, hm, rfl, hno, B, bg⟩ := hrel
    have HN := Lib.hid hno
    have BG := Lib.hid bg
    clear hno bg
    by_cases hlt : m < Q
    · have hlti : (m : Int) < (Q : Int) := by omega
      have HC1 := Lib.hid (l3Set_at wr P m hP (by omega))
      have HSZ : Hid ((maskL m P).length = sizeM m P) := Lib.hid rfl
      have HSP : Hid ((spanL l (maskL m P) l.length).length = spanM l m l.length) := Lib.hid (spanL_lenM HR.out _ (Nat.le_refl _))
      have hs1 := sizeM_le m P
      have hs2 := spanM_le l m l.length
      have HOV : Hid (overAt P l k r m = (decide (0 < spanM l m l.length) && decide (k * (sizeM m P : Int) - r < (spanM l m l.length : Int)))) := Lib.hid rfl
      generalize hS : sizeM m P = S at *
      generalize hT : spanM l m l.length = T at *
      clear hS hT
      have hb1 : 0 ≤ k * (S : Int) := Int.mul_nonneg (by omega) (by omega)
      have hb2 : k * (S : Int) ≤ 3 * 8 := Int.mul_le_mul (by omega) (by omega) (by omega) (by omega)
      have hmul := IntWalk.i64_in (k * (S : Int)) (by omega)
      have hsub := IntWalk.i64_in (k * (S : Int) - r) (by omega)
      obtain ⟨zBG, fBG0, fBG1⟩ := BG.out
      go_wp2_with fail
      clear zBG fBG0 fBG1
      refine HC1.out.mono ?_
      rintro e w3 ⟨v3, rfl, o3, b⟩
      obtain ⟨a3, c3, rfl, i3⟩ := o3.form
      rw [HSZ.out] at i3 ⊢
      have HI3 := Lib.hid i3
      clear i3 o3
      have hz3 := b.size
      replace B := B.step b
      replace BG := Lib.hid (BG.out.below b)
      clear b
      have HC2 := Lib.hid (specSpan_at w3 P a cap l (H1.out.below B) hs a3 S c3 (maskL m P) HI3.out (by omega))
      obtain ⟨zBG, fBG0, fBG1⟩ := BG.out
      go_wp2_with fail
      clear zBG fBG0 fBG1
      refine HC2.out.mono ?_
      rintro e w4 ⟨v4, rfl, o4, b⟩
      obtain ⟨a4, c4, rfl, i4⟩ := o4.form
      rw [HSP.out]
      clear i4 o4
      have hz4 := b.size
      replace B := B.step b
      replace BG := Lib.hid (BG.out.below b)
      clear b HC2 HC1
      by_cases h0 : 0 < T
      · have h0i : (0 : Int) < (T : Int) := by omega
        by_cases h1 : k * (S : Int) - r < (T : Int)
        · have HE : Hid (ovcB ((P : Int), l) k r = true) := Lib.hid (by
            rw [HO.out]
            refine HNO.out m hlt ?_
            rw [HOV.out, decide_eq_true h0, decide_eq_true h1]; rfl)
          go_wp2_with fail
          go_ret2
          rw [HE.out]
          exact ⟨⟨_, rfl⟩, B⟩
        · have HF : Hid (overAt P l k r m = false) := Lib.hid (by rw [HOV.out, decide_eq_false h1, Bool.and_false])
          have h1i : (T : Int) ≤ k * (S : Int) - r := by omega
          go_wp2_with fail
          go_roundw
          case rel =>
            refine ⟨m + 1, by omega, by omega, by go_num, fun q hq => ?_, B, BG.out⟩
            by_cases e : q = m
            · rw [e]; exact HF.out
            · exact HN.out q (by omega)
          case measure => simp [intOf]; omega
      · have h0i : ¬ (0 : Int) < (T : Int) := by omega
        obtain rfl : T = 0 := by omega
        have HF : Hid (overAt P l k r m = false) := Lib.hid (by rw [HOV.out, decide_eq_false h0, Bool.false_and])
        go_wp2_with fail
        go_roundw
        case rel =>
          refine ⟨m + 1, by omega, by omega, by go_num, fun q hq => ?_, B, BG.out⟩
          by_cases e : q = m
          · rw [e]; exact HF.out
          · exact HN.out q (by omega)
        case measure => simp [intOf]; omega
    · obtain rfl : m = Q := by omega
      have HE : Hid (ovcB ((P : Int), l) k r = false) := Lib.hid (by rw [HO.out]; exact HNA.out HN.out)
      obtain ⟨zBG, fBG0, fBG1⟩ := BG.out
      go_wp2_with fail
      go_ret2
      rw [HE.out]
      exact ⟨⟨_, rfl⟩, B.step (belAl _ _)⟩
set_option maxHeartbeats 4000000 in
theorem specSparse_at (W : World) (p : Int) (a : Option Addr) (cap : Nat) (l : List BarT) (h : BarsAt W a l.length l) (hs : l.length ≤ 1048576) (k r : Int) : Calls Tryz.prog 43 #[.agg #[.int .i64 p, .slice a l.length cap], .int .i64 k, .int .i64 r] W fun e w' => e = .returned (.bool (sparseB (p, l) k r)) ∧ Below W.heap.size W w' := by
  have hwd := @Wd.cells
  have HGr : Hid (IsGraph W (.agg #[.int .i64 p, .slice a l.length cap]) (p, l)) := Lib.hid ⟨a, cap, rfl, h⟩
  have H1 := Lib.hid h
  clear h
  have hsz : szGraph (p, l) ≤ 1048576 := hs
  have hsz2 : szGraph (p, l) ≤ 1099511627776 := Nat.le_trans hsz (by decide)
  have B : Below W.heap.size W (W.alloc (.cells #[.int .i64 p, .slice a l.length cap] 26)) := (Below.refl _ _).alloc (Nat.le_refl _) _
  have BG : Hid (BoxGr (W.alloc (.cells #[.int .i64 p, .slice a l.length cap] 26)) W.heap.size p a l.length cap) := Lib.hid (BoxGr.at rfl)
  have HCG : Hid (∀ w1 : World, Below W.heap.size W w1 → Calls Tryz.prog 51 #[.agg #[.int .i64 p, .slice a l.length cap]] w1 fun e w' => e = .returned (.bool (isGraphB (p, l))) ∧ Below w1.heap.size w1 w') := Lib.hid fun w1 b => spec_IsGraph_is w1 _ (p, l) (HGr.out.below b) hsz2
  have HCO : Hid (∀ w1 : World, Below W.heap.size W w1 → Calls Tryz.prog 102 #[.agg #[.int .i64 p, .slice a l.length cap], .int .i64 k, .int .i64 r] w1 (RetOv w1 (ovcB (p, l) k r))) := Lib.hid fun w1 b => specOvc_at w1 p a cap l (H1.out.below b) hs k r
  have HB : Hid (sparseB (p, l) k r = ((isGraphB (p, l) && rangeB k r) && !ovcB (p, l) k r)) := Lib.hid (by
    unfold sparseB ovcB
    cases isGraphB (p, l) && rangeB k r <;> simp)
  go_enter Tryz.func43, Tryz.ntmps43
  go_wp2_with fail
  generalize (W.alloc (.cells #[.int .i64 p, .slice a l.length cap] 26)) = u at *
  obtain ⟨zBG, fBG0, fBG1⟩ := BG.out
  go_wp2_with fail
  clear zBG fBG0 fBG1
  refine (HCO.out _ B).mono ?_
  rintro e w1 ⟨⟨vo, rfl⟩, b⟩
  have hz1 := b.size
  replace B := B.step b
  replace BG := Lib.hid (BG.out.below b)
  clear b
  generalize ovcB (p, l) k r = o at *
  obtain ⟨zBG, fBG0, fBG1⟩ := BG.out
  go_wp2_with fail
  clear zBG fBG0 fBG1
  refine (HCG.out _ B).mono ?_
  rintro e w2 ⟨rfl, b⟩
  have hz2 := b.size
  replace B := B.step b
  replace BG := Lib.hid (BG.out.below b)
  clear b
  have HCR := Lib.hid (specRange_any k r w2)
  generalize isGraphB (p, l) = g at *
  generalize rangeB k r = rr at *
  cases g
  · go_wp2_with fail
    go_ret
    rw [HB.out]
    exact ⟨rfl, B⟩
  · cases rr
    · go_wp2_with (go_at_call 71; refine HCR.out.mono ?_; rintro e w3 ⟨rfl, b⟩; have hz3 := b.size; replace B := B.step b; clear b)
      go_ret
      rw [HB.out]
      exact ⟨rfl, B⟩
    · cases o
      · go_wp2_with (go_at_call 71; refine HCR.out.mono ?_; rintro e w3 ⟨rfl, b⟩; have hz3 := b.size; replace B := B.step b; clear b)
        go_ret
        rw [HB.out]
        exact ⟨rfl, B⟩
      · go_wp2_with (go_at_call 71; refine HCR.out.mono ?_; rintro e w3 ⟨rfl, b⟩; have hz3 := b.size; replace B := B.step b; clear b)
        go_ret
        rw [HB.out]
        exact ⟨rfl, B⟩
set_option maxHeartbeats 4000000 in
theorem specTight_at (W : World) (p : Int) (a : Option Addr) (cap : Nat) (l : List BarT) (h : BarsAt W a l.length l) (hs : l.length ≤ 1048576) (k r : Int) : Calls Tryz.prog 11 #[.agg #[.int .i64 p, .slice a l.length cap], .int .i64 k, .int .i64 r] W fun e w' => e = .returned (.bool (tightB (p, l) k r)) ∧ Below W.heap.size W w' := by
  have hwd := @Wd.cells
  have HGr : Hid (IsGraph W (.agg #[.int .i64 p, .slice a l.length cap]) (p, l)) := Lib.hid ⟨a, cap, rfl, h⟩
  have H1 := Lib.hid h
  clear h
  have hsz : szGraph (p, l) ≤ 1048576 := hs
  have hsz2 : szGraph (p, l) ≤ 1099511627776 := Nat.le_trans hsz (by decide)
  have B : Below W.heap.size W (W.alloc (.cells #[.int .i64 p, .slice a l.length cap] 26)) := (Below.refl _ _).alloc (Nat.le_refl _) _
  have BG : Hid (BoxGr (W.alloc (.cells #[.int .i64 p, .slice a l.length cap] 26)) W.heap.size p a l.length cap) := Lib.hid (BoxGr.at rfl)
  have HCS : Hid (∀ w1 : World, Below W.heap.size W w1 → Calls Tryz.prog 43 #[.agg #[.int .i64 p, .slice a l.length cap], .int .i64 k, .int .i64 r] w1 fun e w' => e = .returned (.bool (sparseB (p, l) k r)) ∧ Below w1.heap.size w1 w') := Lib.hid fun w1 b => specSparse_at w1 p a cap l (H1.out.below b) hs k r
  go_enter Tryz.func11, Tryz.ntmps11
  go_wp2_with fail
  generalize (W.alloc (.cells #[.int .i64 p, .slice a l.length cap] 26)) = u at *
  obtain ⟨zBG, fBG0, fBG1⟩ := BG.out
  go_wp2_with fail
  clear zBG fBG0 fBG1
  refine (HCS.out _ B).mono ?_
  rintro e w1 ⟨rfl, b⟩
  have hz1 := b.size
  replace B := B.step b
  replace BG := Lib.hid (BG.out.below b)
  clear b
  cases hsp : sparseB (p, l) k r
  · have HE : Hid (tightB (p, l) k r = false) := Lib.hid (by unfold tightB; rw [hsp]; rfl)
    go_wp2_with fail
    go_ret
    rw [HE.out]
    exact ⟨rfl, B⟩
  · have hgr : isGraphB (p, l) = true ∧ rangeB k r = true := by
      unfold sparseB at hsp
      simp only [Bool.and_eq_true] at hsp
      exact hsp.1
    have HE : Hid (tightB (p, l) k r = ((l.length : Int) == max 0 (k * p - r))) := Lib.hid (by unfold tightB; rw [hsp]; rfl)
    obtain ⟨⟨hg1, hg2⟩, hg3⟩ := isGraphB_bd hgr.1
    have hkr : (1 ≤ k ∧ k ≤ 3) ∧ 0 ≤ r ∧ r ≤ 5 := by
      have hr := hgr.2
      unfold rangeB inB at hr
      simp only [Bool.and_eq_true, decide_eq_true_eq] at hr
      omega
    have hb1 : 0 ≤ k * p := Int.mul_nonneg (by omega) (by omega)
    have hb2 : k * p ≤ 3 * 8 := Int.mul_le_mul (by omega) (by omega) (by omega) (by omega)
    have hmul := IntWalk.i64_in (k * p) (by omega)
    have hsub := IntWalk.i64_in (k * p - r) (by omega)
    clear hsp hgr
    obtain ⟨zBG, fBG0, fBG1⟩ := BG.out
    go_wp2_with fail
    go_ret
    rw [HE.out]
    exact ⟨rfl, B⟩
end Go.Proofs.YtfbmpkdjhhcnpaaGreat

