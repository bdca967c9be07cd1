/- Arena: the law ArenaChecks. -/
import Derived.Test.YtbifnbkphenncaaO4
set_option linter.unusedVariables false
set_option maxRecDepth 8000
set_option maxHeartbeats 4000000
set_option linter.unusedSimpArgs false
namespace Go.Proofs.A
open Go Go.Ab
theorem stII : STy tb 42 23 1 := ⟨_, _, ty42, rfl, ty23, rfl, by decide, rfl, by decide, by decide, fun _ => rfl, fun h => absurd rfl h⟩
section
variable {H : AH} {a : Option Addr} {n c : Nat}
theorem ixII {l : List (List Int)} (h : Intss H (.slice a n c) l) (k : IntKind) (z : Int) (hz : 0 ≤ z ∧ z < l.length) : aindex tb 42 (.slice a n c) (.int k z) = some (elp a c z 0) := h.ix ty42 rfl ty23 rfl k z hz
theorem ldII {l : List (List Int)} (h : Intss H (.slice a n c) l) (i : Nat) (hi : i < l.length) : ∃ v, aload tb 23 (elp a c i 0) H.get = some v ∧ Ints H v l[i] := by
  obtain ⟨x, hx, u, hu, hr⟩ := h.at_ i hi
  rw [List.getElem?_eq_getElem hi] at hx
  cases hx
  exact ⟨u, h.ld1 ty23 rfl i 0 (by simpa using hu), hr⟩
end
theorem take_all (ps : List Int) (f : Int → Bool) (j : Nat) (h : j < ps.length) : (ps.take (j + 1)).all f = ((ps.take j).all f && f ps[j]) := by
  rw [← List.take_append_getElem h, List.all_append]; simp
theorem bool_ne (b : Bool) : abin tb .neq 4 (.bool b) (.bool b) = some (.bool false) := by
  show (aeq tb 60 4 (.bool b) (.bool b)).map (fun b => Value.bool (!b)) = _
  cases b <;> rfl
theorem ArenaChecks_ok (H : AH) (h0 : H.ro ≤ H.size) (p : Ask) (vl vp : Value) (h : AskV H vl vp p) : Runs tb 6 [.agg #[vl, vp]] H (fun r _ => r = .bool true) := by
  obtain ⟨pl, cl, rfl⟩ := h.l.inv
  obtain ⟨pp, cp, rfl⟩ := h.p.inv
  have hbl := h.l.bd
  refine Runs_fn (fn := Try.f6) [.tmp 2] [0, 1, 2, 3, 4, 5, 6, 7, 8, 9, 10, 11, 12, 13, 14] [] 3000 (by kernel_rfl) rfl (by kernel_rfl) (by kernel_rfl) rfl ?_; simp only [pad, argAt]
  simp (disch := omega) only [go_sem, Nat.reduceEqDiff, Nat.reduceAdd, ↓reduceIte, get_pushB, get_putB, pickB_t, pickB_f, eqB_t, eqB_f, ltB_t, leB_t, AH.size_push, AH.size_put, AH.ro_push, AH.ro_put]
  have hgB : (H.push [Value.slice pl p.l.length cl, Value.slice pp p.p.length cp]).get H.size = some [Value.slice pl p.l.length cl, Value.slice pp p.p.length cp] := by rw [AH.get_push, if_pos rfl]
  have hr0 := push_ok h0 [Value.slice pl p.l.length cl, Value.slice pp p.p.length cp]
  have hB := h.mono (Ext.push H [Value.slice pl p.l.length cl, Value.slice pp p.p.length cp])
  generalize (H.push [Value.slice pl p.l.length cl, Value.slice pp p.p.length cp]) = G at *
  refine callW_of (Heavy2_ok G hr0 p _ _ hB) ?_
  rintro r G1 ⟨⟨b, rfl, hbw⟩, hE1⟩
  have hr1 : G1.ro ≤ G1.size := by have := hE1.ro; have := hE1.size; omega
  cases b
  · obtain ⟨hl5, hp5⟩ := hbw rfl
    have hg1 := hE1.get _ _ hgB
    have h1 := hB.mono hE1
    have hsG1 : H.size < G1.size := AH.lt_of_get hg1
    simp (disch := omega) only [go_sem, Nat.reduceEqDiff, Nat.reduceAdd, ↓reduceIte, get_pushB, get_putB, pickB_t, pickB_f, eqB_t, eqB_f, ltB_t, leB_t, AH.size_push, AH.size_put, AH.ro_push, AH.ro_put, hg1, bslice_1 stII (.slice pp p.p.length cp) rfl]
    have hEp := Ext.push G1 [.slice pp p.p.length cp]
    have hoL : Own G1 (G1.push [.slice pp p.p.length cp]) 1 (.slice (some ⟨G1.size, 0, none⟩) 1 1) 1 [.slice pp p.p.length cp] := Own.mk G1.size 1 _ (Nat.le_refl _) hr1 rfl (by rw [AH.get_push, if_pos rfl]) rfl (by omega)
    have hg2 := hEp.get _ _ hg1
    have h2 := h1.mono hEp
    have hr2 := push_ok hr1 [.slice pp p.p.length cp]
    have hs12 : G1.size < (G1.push [.slice pp p.p.length cp]).size := Nat.lt_succ_self _
    have hls1 : Intss (G1.push [.slice pp p.p.length cp]) (.slice (some ⟨G1.size, 0, none⟩) 1 1) [p.p] := Own.sl hoL rfl fun i x hx => by
      match i, hx with
      | 0, hx => cases hx; exact ⟨_, rfl, h2.p⟩
    generalize G1.push [.slice pp p.p.length cp] = G2 at *
    refine callW_of (Lives_ok G2 p.l _ h2.l) ?_
    rintro r G3 ⟨rfl, rfl⟩
    cases hm : mayL p.l
    · have hK := h2
      have hgK := hg2
      have hrK := hr2
      obtain ⟨ls, hlse⟩ : ∃ ls, ls = [p.p] := ⟨_, rfl⟩
      have hLs := hls1
      rw [← hlse] at hLs
      have hll : ∀ x ∈ ls, x.length ≤ 1000 := fun x hx => by rw [hlse, List.mem_singleton] at hx; subst hx; omega
      have hl3 : ls.length ≤ 3 := by rw [hlse]; simp
      have hl1 : (1 : Nat) = ls.length := by rw [hlse]; rfl
      obtain ⟨la, lc, ela⟩ : ∃ la lc, (Value.slice (some ⟨G1.size, 0, none⟩) 1 1) = .slice la ls.length lc := ⟨_, _, by rw [hlse]; rfl⟩
      rw [ela] at hLs
      simp (disch := omega) only [go_sem, Nat.reduceEqDiff, Nat.reduceAdd, ↓reduceIte, get_pushB, get_putB, pickB_t, pickB_f, eqB_t, eqB_f, ltB_t, leB_t, AH.size_push, AH.size_put, AH.ro_push, AH.ro_put]
      rw [ela]
      generalize hKe : G3 = K at *
      refine Sat_loop 3000 (fun kk M V => ∃ (k : Nat) (x8 x9 x10 x11 x12 x13 x14 : Value), k ≤ ls.length ∧ kk = ls.length - k ∧ Ext K M ∧ V = [.agg #[.slice pl p.l.length cl, .slice pp p.p.length cp], .pointer (some ⟨H.size, 0, none⟩), .bool false, .slice la ls.length lc, undef, undef, undef, .int .i64 k, x8, x9, x10, x11, x12, x13, x14]) ls.length ⟨0, _, _, _, _, _, _, _, by omega, rfl, Ext.refl _, rfl⟩ ?_
      rintro kk M V ⟨k, x8, x9, x10, x11, x12, x13, x14, hk, rfl, hKM, rfl⟩ ih
      have hrM : M.ro ≤ M.size := by have := hKM.ro; have := hKM.size; omega
      have hgM := hKM.get _ _ hgK
      have hM := hK.mono hKM
      have hLM := hLs.mono hKM
      simp (disch := omega) only [go_sem, Nat.reduceEqDiff, Nat.reduceAdd, ↓reduceIte, get_pushB, get_putB, pickB_t, pickB_f, eqB_t, eqB_f, ltB_t, leB_t, AH.size_push, AH.size_put, AH.ro_push, AH.ro_put]
      refine Split.mk (fun q1 => ?_) (fun q1 => ?_)
      · have hkl : k < ls.length := by omega
        have y1 := ixII hLM .i64 (k : Int) (by omega)
        obtain ⟨u, z1, hu⟩ := ldII hLM k hkl
        have hul := hll _ (List.getElem_mem hkl)
        obtain ⟨ps, hps⟩ : ∃ ps, ps = ls[k] := ⟨_, rfl⟩
        rw [← hps] at hu hul
        obtain ⟨ua, uc, rfl⟩ := hu.inv
        simp (disch := omega) only [go_sem, Nat.reduceEqDiff, Nat.reduceAdd, ↓reduceIte, get_pushB, get_putB, pickB_t, pickB_f, eqB_t, eqB_f, ltB_t, leB_t, AH.size_push, AH.size_put, AH.ro_push, AH.ro_put, y1, z1]
        refine callW_of (CopyNumbers_ok M hrM ps _ hu (by omega)) ?_
        rintro at_ M1 ⟨hat, hE1⟩
        have hr1 : M1.ro ≤ M1.size := by have := hE1.ro; have := hE1.size; omega
        have hg1 := hE1.get _ _ hgM
        have h1 := hM.mono hE1
        have hL1 := hLM.mono hE1
        have hatI := hat.ints
        obtain ⟨ta, tc, rfl⟩ := hatI.inv
        simp (disch := omega) only [go_sem, Nat.reduceEqDiff, Nat.reduceAdd, ↓reduceIte, get_pushB, get_putB, pickB_t, pickB_f, eqB_t, eqB_f, ltB_t, leB_t, AH.size_push, AH.size_put, AH.ro_push, AH.ro_put, hg1]
        refine callW_of (Check_ok M1 hr1 p.l _ h1.l ps _ hatI) ?_
        rintro r M2 ⟨rfl, hE2⟩
        have hr2 : M2.ro ≤ M2.size := by have := hE2.ro; have := hE2.size; omega
        have hg2 := hE2.get _ _ hg1
        have h2 := h1.mono hE2
        have hL2 := hL1.mono hE2
        have hat2 := hatI.mono hE2
        obtain ⟨g, hg⟩ : ∃ g : Bool, g = (mayL p.l && decide (ps.length = p.l.length)) := ⟨_, rfl⟩
        have hif : (if mayL p.l = true ∧ ps.length = p.l.length ∧ ps.all okAt = true then (0 : Int) else 1) = if (g && ps.all okAt) = true then 0 else 1 := by
          rw [hg]; simp only [Bool.and_eq_true, decide_eq_true_eq, and_assoc]
        rw [hif, ← hg]
        simp (disch := omega) only [go_sem, Nat.reduceEqDiff, Nat.reduceAdd, ↓reduceIte, get_pushB, get_putB, pickB_t, pickB_f, eqB_t, eqB_f, ltB_t, leB_t, AH.size_push, AH.size_put, AH.ro_push, AH.ro_put, hg2]
        refine callW_of (Lives_ok M2 p.l _ h2.l) ?_
        rintro r M3 ⟨rfl, rfl⟩
        rw [hm]
        simp (disch := omega) only [go_sem, Nat.reduceEqDiff, Nat.reduceAdd, ↓reduceIte, get_pushB, get_putB, pickB_t, pickB_f, eqB_t, eqB_f, ltB_t, leB_t, AH.size_push, AH.size_put, AH.ro_push, AH.ro_put]
        have hg0 : false = g := by rw [hg, hm]; rfl
        rw [show (Value.bool false) = .bool false from rfl]
        refine Sat_loop 3000 (fun kk2 N V => ∃ (j : Nat), j ≤ ps.length ∧ kk2 = ps.length - j ∧ N = M3 ∧ V = [.agg #[.slice pl p.l.length cl, .slice pp p.p.length cp], .pointer (some ⟨H.size, 0, none⟩), .bool false, .slice la ls.length lc, undef, undef, undef, .int .i64 k, .slice ta ps.length tc, .bool (g && ps.all okAt && apartP p.l ps), .int .i64 (if (g && ps.all okAt) = true then 0 else 1), .int .i64 1, .bool false, .bool (g && (ps.take j).all okAt), .int .i64 j]) ps.length ⟨0, by omega, rfl, rfl, by first | rfl | (rw [← hg0]; rfl) | simp⟩ ?_
        rintro kk2 N V ⟨j, hj, rfl, rfl, rfl⟩ ih3
        simp (disch := omega) only [go_sem, Nat.reduceEqDiff, Nat.reduceAdd, ↓reduceIte, get_pushB, get_putB, pickB_t, pickB_f, eqB_t, eqB_f, ltB_t, leB_t, AH.size_push, AH.size_put, AH.ro_push, AH.ro_put]
        refine Split.mk (fun q2 => ?_) (fun q2 => ?_)
        · have hjl : j < ps.length := by omega
          have y3 := ixI hat2 .i64 (j : Int) (by omega)
          have z3 := ldI hat2 (j : Int) (by omega)
          have ez : gi ps (j : Int) = ps[j] := by simp [gi, List.getD_eq_getElem?_getD, hjl]
          rw [ez] at z3
          have htk := take_all ps okAt j hjl
          cases hgd : (g && (ps.take j).all okAt)
          · simp (disch := omega) only [go_sem, Nat.reduceEqDiff, Nat.reduceAdd, ↓reduceIte, get_pushB, get_putB, pickB_t, pickB_f, eqB_t, eqB_f, ltB_t, leB_t, AH.size_push, AH.size_put, AH.ro_push, AH.ro_put]
            refine ih3 _ _ _ ?_ ⟨j + 1, by omega, rfl, rfl, by rw [htk, ← Bool.and_assoc, hgd]; simp only [Int.natCast_add]; rfl⟩
            omega
          · simp (disch := omega) only [go_sem, Nat.reduceEqDiff, Nat.reduceAdd, ↓reduceIte, get_pushB, get_putB, pickB_t, pickB_f, eqB_t, eqB_f, ltB_t, leB_t, AH.size_push, AH.size_put, AH.ro_push, AH.ro_put, y3, z3]
            refine callW_of (Num_ok _ _ _) ?_
            rintro r N2 ⟨rfl, rfl⟩
            simp (disch := omega) only [go_sem, Nat.reduceEqDiff, Nat.reduceAdd, ↓reduceIte, get_pushB, get_putB, pickB_t, pickB_f, eqB_t, eqB_f, ltB_t, leB_t, AH.size_push, AH.size_put, AH.ro_push, AH.ro_put]
            refine ih3 _ _ _ ?_ ⟨j + 1, by omega, rfl, rfl, by rw [htk, ← Bool.and_assoc, hgd]; simp only [Int.natCast_add]; rfl⟩
            omega
        · obtain rfl : j = ps.length := by omega
          rw [List.take_of_length_le (Nat.le_refl _)]
          obtain ⟨u2, z2, hu2⟩ := ldII hL2 k hkl
          rw [← hps] at hu2
          obtain ⟨ua2, uc2, rfl⟩ := hu2.inv
          cases hG : (g && ps.all okAt)
          · rw [Bool.false_and]
            simp (disch := omega) only [go_sem, Nat.reduceEqDiff, Nat.reduceAdd, ↓reduceIte, get_pushB, get_putB, pickB_t, pickB_f, eqB_t, eqB_f, ltB_t, leB_t, AH.size_push, AH.size_put, AH.ro_push, AH.ro_put]
            refine callW_of (num_ok _ _) ?_
            rintro r N2 ⟨rfl, rfl⟩
            simp (disch := omega) only [go_sem, Nat.reduceEqDiff, Nat.reduceAdd, ↓reduceIte, get_pushB, get_putB, pickB_t, pickB_f, eqB_t, eqB_f, ltB_t, leB_t, AH.size_push, AH.size_put, AH.ro_push, AH.ro_put, bool_ne, y1, z2]
            refine callW_of (EqNumbers_ok _ _ _ _ _ hat2 hu2) ?_
            rintro r N2 ⟨rfl, rfl⟩
            rw [decide_eq_true rfl]
            simp (disch := omega) only [go_sem, Nat.reduceEqDiff, Nat.reduceAdd, ↓reduceIte, get_pushB, get_putB, pickB_t, pickB_f, eqB_t, eqB_f, ltB_t, leB_t, AH.size_push, AH.size_put, AH.ro_push, AH.ro_put]
            refine ih _ _ _ ?_ ⟨k + 1, _, _, _, _, _, _, _, by omega, rfl, (hKM.trans hE1).trans hE2, by simp only [Int.natCast_add]; rfl⟩
            omega
          · have hgt : g = true := by rw [Bool.and_eq_true] at hG; exact hG.1
            have hok : ps.all okAt = true := by rw [Bool.and_eq_true] at hG; exact hG.2
            rw [hgt] at hg
            have hg := hg.symm
            rw [Bool.and_eq_true] at hg
            have hmt := hg.1
            have hpl := of_decide_eq_true hg.2
            simp (disch := omega) only [go_sem, Nat.reduceEqDiff, Nat.reduceAdd, ↓reduceIte, get_pushB, get_putB, pickB_t, pickB_f, eqB_t, eqB_f, ltB_t, leB_t, AH.size_push, AH.size_put, AH.ro_push, AH.ro_put, hg2]
            refine callW_of (RefApart_ok _ p.l _ h2.l hmt ps _ hat2 hpl hok) ?_
            rintro r N2 ⟨rfl, rfl⟩
            simp (disch := omega) only [go_sem, Nat.reduceEqDiff, Nat.reduceAdd, ↓reduceIte, get_pushB, get_putB, pickB_t, pickB_f, eqB_t, eqB_f, ltB_t, leB_t, AH.size_push, AH.size_put, AH.ro_push, AH.ro_put]
            refine callW_of (num_ok _ _) ?_
            rintro r N2 ⟨rfl, rfl⟩
            simp (disch := omega) only [go_sem, Nat.reduceEqDiff, Nat.reduceAdd, ↓reduceIte, get_pushB, get_putB, pickB_t, pickB_f, eqB_t, eqB_f, ltB_t, leB_t, AH.size_push, AH.size_put, AH.ro_push, AH.ro_put, bool_ne, y1, z2]
            refine callW_of (EqNumbers_ok _ _ _ _ _ hat2 hu2) ?_
            rintro r N2 ⟨rfl, rfl⟩
            rw [decide_eq_true rfl]
            simp (disch := omega) only [go_sem, Nat.reduceEqDiff, Nat.reduceAdd, ↓reduceIte, get_pushB, get_putB, pickB_t, pickB_f, eqB_t, eqB_f, ltB_t, leB_t, AH.size_push, AH.size_put, AH.ro_push, AH.ro_put]
            refine ih _ _ _ ?_ ⟨k + 1, _, _, _, _, _, _, _, by omega, rfl, (hKM.trans hE1).trans hE2, by simp only [Int.natCast_add]; rfl⟩
            omega
      · obtain rfl : k = ls.length := by omega
        simp (disch := omega) only [go_sem, Nat.reduceEqDiff, Nat.reduceAdd, ↓reduceIte, get_pushB, get_putB, pickB_t, pickB_f, eqB_t, eqB_f, ltB_t, leB_t, AH.size_push, AH.size_put, AH.ro_push, AH.ro_put]
        refine callW_of (wakes_ok _ hrM) ?_
        rintro r K1 ⟨rfl, hE7⟩
        simp (disch := omega) only [go_sem, Nat.reduceEqDiff, Nat.reduceAdd, ↓reduceIte, get_pushB, get_putB, pickB_t, pickB_f, eqB_t, eqB_f, ltB_t, leB_t, AH.size_push, AH.size_put, AH.ro_push, AH.ro_put]
    · simp (disch := omega) only [go_sem, Nat.reduceEqDiff, Nat.reduceAdd, ↓reduceIte, get_pushB, get_putB, pickB_t, pickB_f, eqB_t, eqB_f, ltB_t, leB_t, AH.size_push, AH.size_put, AH.ro_push, AH.ro_put, hg2]
      have hlen := mayL_len hm
      refine callW_of (RefPlace_ok G3 hr2 p.l _ h2.l hm) ?_
      rintro vx G4 ⟨hx, hE4⟩
      have hr4 : G4.ro ≤ G4.size := by have := hE4.ro; have := hE4.size; omega
      have hpl0 := placeL_len p.l p.l.length
      obtain ⟨ps0, hps0⟩ : ∃ ps, ps = placeL p.l p.l.length := ⟨_, rfl⟩
      rw [← hps0] at hx hpl0
      have hxI := hx.ints
      obtain ⟨xa, xc, rfl⟩ := hxI.inv
      simp (disch := omega) only [go_sem, Nat.reduceEqDiff, Nat.reduceAdd, ↓reduceIte, get_pushB, get_putB, pickB_t, pickB_f, eqB_t, eqB_f, ltB_t, leB_t, AH.size_push, AH.size_put, AH.ro_push, AH.ro_put]
      refine callW_of (CopyNumbers_ok G4 hr4 ps0 _ hxI (by omega)) ?_
      rintro vy G5 ⟨hy, hE5⟩
      obtain ⟨ya, yc, rfl⟩ := hy.ints.inv
      simp (disch := omega) only [go_sem, Nat.reduceEqDiff, Nat.reduceAdd, ↓reduceIte, get_pushB, get_putB, pickB_t, pickB_f, eqB_t, eqB_f, ltB_t, leB_t, AH.size_push, AH.size_put, AH.ro_push, AH.ro_put]
      refine Sat_loop 3000 (fun kk K V => ∃ (i : Nat) (ys : List Int), i ≤ ps0.length ∧ kk = ps0.length - i ∧ ys.length = ps0.length ∧ Ext G4 K ∧ OwnI G4 K (.slice ya ps0.length yc) ys ∧ V = [.agg #[.slice pl p.l.length cl, .slice pp p.p.length cp], .pointer (some ⟨H.size, 0, none⟩), .bool false, .slice (some ⟨G1.size, 0, none⟩) 1 1, .slice xa ps0.length xc, .slice ya ps0.length yc, .int .i64 i, undef, undef, undef, undef, undef, undef, undef, undef]) ps0.length ⟨0, ps0, by omega, rfl, rfl, hE5, hy, rfl⟩ ?_
      rintro kk K0 V ⟨i, ys, hi, rfl, hyl, hEK, hyK, rfl⟩ ih0
      have hrK0 : K0.ro ≤ K0.size := by have := hEK.ro; have := hEK.size; omega
      have hE40 := hE4.trans hEK
      have hgK0 := hE40.get _ _ hg2
      have hK0 := h2.mono hE40
      have hEp0 := Ext.push K0 [.slice xa ps0.length xc, .slice ya ps0.length yc]
      have hoL0 := Own.ext (Own.ext hoL hE40) hEp0
      obtain ⟨vls, K, eK, hoK, hEG1, hsK, hrKK, hkK, -⟩ := Own.append_off stII hoL0 hr1 ((hEp.trans hE40).trans hEp0) (x := .slice (some ⟨K0.size, 0, none⟩) 2 1) (m := 2) (ys := [.slice xa ps0.length xc, .slice ya ps0.length yc]) rfl (afirst_block (by rw [AH.get_push, if_pos rfl]) rfl) rfl (by omega)
      have hx0 := Own.ext (Own.ext hx hEK) hEp0
      have hy0 := Own.ext hyK hEp0
      have hxK : OwnI G3 K (.slice xa ps0.length xc) ps0 := Own.keep hx0 hrKK hkK (fun a n k e a2 n2 k2 e2 => by
        have := (hx0.blk a n k e).1
        cases e2
        simp only []; omega)
      have hyK2 : OwnI G4 K (.slice ya ps0.length yc) ys := Own.keep hy0 hrKK hkK (fun a n k e a2 n2 k2 e2 => by
        have := (hy0.blk a n k e).1
        have := hE4.size
        cases e2
        simp only []; omega)
      have hK := h1.mono hEG1
      have hgK := hEG1.get _ _ hg1
      have hrK : K.ro ≤ K.size := by have := hEG1.ro; have := hEG1.size; omega
      obtain ⟨ls, hlse⟩ : ∃ ls, ls = [p.p, ps0, ys] := ⟨_, rfl⟩
      have hLs : Intss K vls ls := by
        rw [hlse]
        refine Own.sl hoK rfl fun i x hx => ?_
        match i, hx with
        | 0, hx => cases hx; exact ⟨_, rfl, hK.p⟩
        | 1, hx => cases hx; exact ⟨_, rfl, hxK.ints⟩
        | 2, hx => cases hx; exact ⟨_, rfl, hyK2.ints⟩
      have hll : ∀ x ∈ ls, x.length ≤ 1000 := fun x hx => by
        rw [hlse] at hx
        simp only [List.mem_cons, List.not_mem_nil, or_false] at hx
        rcases hx with rfl | rfl | rfl <;> omega
      have hl3 : ls.length ≤ 3 := by rw [hlse]; simp
      obtain ⟨la, lc, rfl⟩ := hLs.inv
      simp (disch := omega) only [go_sem, Nat.reduceEqDiff, Nat.reduceAdd, ↓reduceIte, get_pushB, get_putB, pickB_t, pickB_f, eqB_t, eqB_f, ltB_t, leB_t, AH.size_push, AH.size_put, AH.ro_push, AH.ro_put]
      refine SplitG.mk (fun q1 => ?_) (fun q1 => ?_)
      · simp (disch := omega) only [go_sem, Nat.reduceEqDiff, Nat.reduceAdd, ↓reduceIte, get_pushB, get_putB, pickB_t, pickB_f, eqB_t, eqB_f, ltB_t, leB_t, AH.size_push, AH.size_put, AH.ro_push, AH.ro_put, hgK0]
        refine Split.mk (fun q2 => ?_) (fun q2 => ?_)
        · have hip : i < p.p.length := by omega
          have y5 := ixI hK0.p .i64 (i : Int) (by omega)
          have z5 := ldI hK0.p (i : Int) (by omega)
          simp (disch := omega) only [go_sem, Nat.reduceEqDiff, Nat.reduceAdd, ↓reduceIte, get_pushB, get_putB, pickB_t, pickB_f, eqB_t, eqB_f, ltB_t, leB_t, AH.size_push, AH.size_put, AH.ro_push, AH.ro_put, hgK0]
          refine ⟨by decide, ?_⟩
          refine SplitG.mk (fun q3 => ?_) (fun q3 => ?_)
          · simp (disch := omega) only [go_sem, Nat.reduceEqDiff, Nat.reduceAdd, ↓reduceIte, get_pushB, get_putB, pickB_t, pickB_f, eqB_t, eqB_f, ltB_t, leB_t, AH.size_push, AH.size_put, AH.ro_push, AH.ro_put, hgK0, y5, z5]
            refine Split.mk (fun q4 => ?_) (fun q4 => ?_)
            · have hyne : ys ≠ [] := fun e => by rw [e] at hyl; simp at hyl; omega
              obtain ⟨yb, eyb⟩ := hyK.block hyne
              rw [Value.slice.injEq] at eyb
              obtain ⟨rfl, -, rfl⟩ := eyb
              have y6 := ixI hyK.ints .i64 (i : Int) (by omega)
              have hset := fun x => hyK.set (i : Int) x (by omega)
              simp (disch := omega) only [go_sem, Nat.reduceEqDiff, Nat.reduceAdd, ↓reduceIte, get_pushB, get_putB, pickB_t, pickB_f, eqB_t, eqB_f, ltB_t, leB_t, AH.size_push, AH.size_put, AH.ro_push, AH.ro_put, hgK0, y5, z5, y6]
              refine ⟨by decide, ?_⟩
              obtain ⟨es, ho2, hbs, hbK⟩ := hset ((gi p.p i).tmod 20)
              simp (disch := omega) only [go_sem, Nat.reduceEqDiff, Nat.reduceAdd, ↓reduceIte, get_pushB, get_putB, pickB_t, pickB_f, eqB_t, eqB_f, ltB_t, leB_t, AH.size_push, AH.size_put, AH.ro_push, AH.ro_put, es]
              refine ih0 _ _ _ ?_ ⟨i + 1, _, by omega, rfl, by rw [List.length_set]; exact hyl, hEK.put hbK hbs _, ho2, by simp only [Int.natCast_add]; rfl⟩
              omega
            · simp (disch := omega) only [go_sem, Nat.reduceEqDiff, Nat.reduceAdd, ↓reduceIte, get_pushB, get_putB, pickB_t, pickB_f, eqB_t, eqB_f, ltB_t, leB_t, AH.size_push, AH.size_put, AH.ro_push, AH.ro_put]
              refine ih0 _ _ _ ?_ ⟨i + 1, ys, by omega, rfl, hyl, hEK, hyK, by simp only [Int.natCast_add]; rfl⟩
              omega
          · simp (disch := omega) only [go_sem, Nat.reduceEqDiff, Nat.reduceAdd, ↓reduceIte, get_pushB, get_putB, pickB_t, pickB_f, eqB_t, eqB_f, ltB_t, leB_t, AH.size_push, AH.size_put, AH.ro_push, AH.ro_put]
            refine ih0 _ _ _ ?_ ⟨i + 1, ys, by omega, rfl, hyl, hEK, hyK, by simp only [Int.natCast_add]; rfl⟩
            omega
        · simp (disch := omega) only [go_sem, Nat.reduceEqDiff, Nat.reduceAdd, ↓reduceIte, get_pushB, get_putB, pickB_t, pickB_f, eqB_t, eqB_f, ltB_t, leB_t, AH.size_push, AH.size_put, AH.ro_push, AH.ro_put, bslice_2 stII (.slice xa ps0.length xc) (.slice ya ps0.length yc) rfl rfl, eK]
          refine Sat_loop 3000 (fun kk M V => ∃ (k : Nat) (x8 x9 x10 x11 x12 x13 x14 : Value), k ≤ ls.length ∧ kk = ls.length - k ∧ Ext K M ∧ V = [.agg #[.slice pl p.l.length cl, .slice pp p.p.length cp], .pointer (some ⟨H.size, 0, none⟩), .bool false, .slice la ls.length lc, .slice xa ps0.length xc, .slice ya ps0.length yc, .int .i64 i, .int .i64 k, x8, x9, x10, x11, x12, x13, x14]) ls.length ⟨0, _, _, _, _, _, _, _, by omega, rfl, Ext.refl _, rfl⟩ ?_
          rintro kk M V ⟨k, x8, x9, x10, x11, x12, x13, x14, hk, rfl, hKM, rfl⟩ ih
          have hrM : M.ro ≤ M.size := by have := hKM.ro; have := hKM.size; omega
          have hgM := hKM.get _ _ hgK
          have hM := hK.mono hKM
          have hLM := hLs.mono hKM
          simp (disch := omega) only [go_sem, Nat.reduceEqDiff, Nat.reduceAdd, ↓reduceIte, get_pushB, get_putB, pickB_t, pickB_f, eqB_t, eqB_f, ltB_t, leB_t, AH.size_push, AH.size_put, AH.ro_push, AH.ro_put]
          refine Split.mk (fun q1 => ?_) (fun q1 => ?_)
          · have hkl : k < ls.length := by omega
            have y1 := ixII hLM .i64 (k : Int) (by omega)
            obtain ⟨u, z1, hu⟩ := ldII hLM k hkl
            have hul := hll _ (List.getElem_mem hkl)
            obtain ⟨ps, hps⟩ : ∃ ps, ps = ls[k] := ⟨_, rfl⟩
            rw [← hps] at hu hul
            obtain ⟨ua, uc, rfl⟩ := hu.inv
            simp (disch := omega) only [go_sem, Nat.reduceEqDiff, Nat.reduceAdd, ↓reduceIte, get_pushB, get_putB, pickB_t, pickB_f, eqB_t, eqB_f, ltB_t, leB_t, AH.size_push, AH.size_put, AH.ro_push, AH.ro_put, y1, z1]
            refine callW_of (CopyNumbers_ok M hrM ps _ hu (by omega)) ?_
            rintro at_ M1 ⟨hat, hE1⟩
            have hr1 : M1.ro ≤ M1.size := by have := hE1.ro; have := hE1.size; omega
            have hg1 := hE1.get _ _ hgM
            have h1 := hM.mono hE1
            have hL1 := hLM.mono hE1
            have hatI := hat.ints
            obtain ⟨ta, tc, rfl⟩ := hatI.inv
            simp (disch := omega) only [go_sem, Nat.reduceEqDiff, Nat.reduceAdd, ↓reduceIte, get_pushB, get_putB, pickB_t, pickB_f, eqB_t, eqB_f, ltB_t, leB_t, AH.size_push, AH.size_put, AH.ro_push, AH.ro_put, hg1]
            refine callW_of (Check_ok M1 hr1 p.l _ h1.l ps _ hatI) ?_
            rintro r M2 ⟨rfl, hE2⟩
            have hr2 : M2.ro ≤ M2.size := by have := hE2.ro; have := hE2.size; omega
            have hg2 := hE2.get _ _ hg1
            have h2 := h1.mono hE2
            have hL2 := hL1.mono hE2
            have hat2 := hatI.mono hE2
            obtain ⟨g, hg⟩ : ∃ g : Bool, g = (mayL p.l && decide (ps.length = p.l.length)) := ⟨_, rfl⟩
            have hif : (if mayL p.l = true ∧ ps.length = p.l.length ∧ ps.all okAt = true then (0 : Int) else 1) = if (g && ps.all okAt) = true then 0 else 1 := by
              rw [hg]; simp only [Bool.and_eq_true, decide_eq_true_eq, and_assoc]
            rw [hif, ← hg]
            simp (disch := omega) only [go_sem, Nat.reduceEqDiff, Nat.reduceAdd, ↓reduceIte, get_pushB, get_putB, pickB_t, pickB_f, eqB_t, eqB_f, ltB_t, leB_t, AH.size_push, AH.size_put, AH.ro_push, AH.ro_put, hg2]
            refine callW_of (Lives_ok M2 p.l _ h2.l) ?_
            rintro r M3 ⟨rfl, rfl⟩
            rw [hm]
            simp (disch := omega) only [go_sem, Nat.reduceEqDiff, Nat.reduceAdd, ↓reduceIte, get_pushB, get_putB, pickB_t, pickB_f, eqB_t, eqB_f, ltB_t, leB_t, AH.size_push, AH.size_put, AH.ro_push, AH.ro_put, hg2]
            have hg0 : decide ((ps.length : Int) = (p.l.length : Int)) = g := by rw [hg, hm]; simp [Int.ofNat_inj]
            rw [hg0]
            refine Sat_loop 3000 (fun kk2 N V => ∃ (j : Nat), j ≤ ps.length ∧ kk2 = ps.length - j ∧ N = M3 ∧ V = [.agg #[.slice pl p.l.length cl, .slice pp p.p.length cp], .pointer (some ⟨H.size, 0, none⟩), .bool false, .slice la ls.length lc, .slice xa ps0.length xc, .slice ya ps0.length yc, .int .i64 i, .int .i64 k, .slice ta ps.length tc, .bool (g && ps.all okAt && apartP p.l ps), .int .i64 (if (g && ps.all okAt) = true then 0 else 1), .int .i64 1, .bool false, .bool (g && (ps.take j).all okAt), .int .i64 j]) ps.length ⟨0, by omega, rfl, rfl, by first | rfl | (rw [← hg0]; rfl) | simp⟩ ?_
            rintro kk2 N V ⟨j, hj, rfl, rfl, rfl⟩ ih3
            simp (disch := omega) only [go_sem, Nat.reduceEqDiff, Nat.reduceAdd, ↓reduceIte, get_pushB, get_putB, pickB_t, pickB_f, eqB_t, eqB_f, ltB_t, leB_t, AH.size_push, AH.size_put, AH.ro_push, AH.ro_put]
            refine Split.mk (fun q2 => ?_) (fun q2 => ?_)
            · have hjl : j < ps.length := by omega
              have y3 := ixI hat2 .i64 (j : Int) (by omega)
              have z3 := ldI hat2 (j : Int) (by omega)
              have ez : gi ps (j : Int) = ps[j] := by simp [gi, List.getD_eq_getElem?_getD, hjl]
              rw [ez] at z3
              have htk := take_all ps okAt j hjl
              cases hgd : (g && (ps.take j).all okAt)
              · simp (disch := omega) only [go_sem, Nat.reduceEqDiff, Nat.reduceAdd, ↓reduceIte, get_pushB, get_putB, pickB_t, pickB_f, eqB_t, eqB_f, ltB_t, leB_t, AH.size_push, AH.size_put, AH.ro_push, AH.ro_put]
                refine ih3 _ _ _ ?_ ⟨j + 1, by omega, rfl, rfl, by rw [htk, ← Bool.and_assoc, hgd]; simp only [Int.natCast_add]; rfl⟩
                omega
              · simp (disch := omega) only [go_sem, Nat.reduceEqDiff, Nat.reduceAdd, ↓reduceIte, get_pushB, get_putB, pickB_t, pickB_f, eqB_t, eqB_f, ltB_t, leB_t, AH.size_push, AH.size_put, AH.ro_push, AH.ro_put, y3, z3]
                refine callW_of (Num_ok _ _ _) ?_
                rintro r N2 ⟨rfl, rfl⟩
                simp (disch := omega) only [go_sem, Nat.reduceEqDiff, Nat.reduceAdd, ↓reduceIte, get_pushB, get_putB, pickB_t, pickB_f, eqB_t, eqB_f, ltB_t, leB_t, AH.size_push, AH.size_put, AH.ro_push, AH.ro_put]
                refine ih3 _ _ _ ?_ ⟨j + 1, by omega, rfl, rfl, by rw [htk, ← Bool.and_assoc, hgd]; simp only [Int.natCast_add]; rfl⟩
                omega
            · obtain rfl : j = ps.length := by omega
              rw [List.take_of_length_le (Nat.le_refl _)]
              obtain ⟨u2, z2, hu2⟩ := ldII hL2 k hkl
              rw [← hps] at hu2
              obtain ⟨ua2, uc2, rfl⟩ := hu2.inv
              cases hG : (g && ps.all okAt)
              · rw [Bool.false_and]
                simp (disch := omega) only [go_sem, Nat.reduceEqDiff, Nat.reduceAdd, ↓reduceIte, get_pushB, get_putB, pickB_t, pickB_f, eqB_t, eqB_f, ltB_t, leB_t, AH.size_push, AH.size_put, AH.ro_push, AH.ro_put]
                refine callW_of (num_ok _ _) ?_
                rintro r N2 ⟨rfl, rfl⟩
                simp (disch := omega) only [go_sem, Nat.reduceEqDiff, Nat.reduceAdd, ↓reduceIte, get_pushB, get_putB, pickB_t, pickB_f, eqB_t, eqB_f, ltB_t, leB_t, AH.size_push, AH.size_put, AH.ro_push, AH.ro_put, bool_ne, y1, z2]
                refine callW_of (EqNumbers_ok _ _ _ _ _ hat2 hu2) ?_
                rintro r N2 ⟨rfl, rfl⟩
                rw [decide_eq_true rfl]
                simp (disch := omega) only [go_sem, Nat.reduceEqDiff, Nat.reduceAdd, ↓reduceIte, get_pushB, get_putB, pickB_t, pickB_f, eqB_t, eqB_f, ltB_t, leB_t, AH.size_push, AH.size_put, AH.ro_push, AH.ro_put]
                refine ih _ _ _ ?_ ⟨k + 1, _, _, _, _, _, _, _, by omega, rfl, (hKM.trans hE1).trans hE2, by simp only [Int.natCast_add]; rfl⟩
                omega
              · have hgt : g = true := by rw [Bool.and_eq_true] at hG; exact hG.1
                have hok : ps.all okAt = true := by rw [Bool.and_eq_true] at hG; exact hG.2
                rw [hgt] at hg
                have hg := hg.symm
                rw [Bool.and_eq_true] at hg
                have hmt := hg.1
                have hpl := of_decide_eq_true hg.2
                simp (disch := omega) only [go_sem, Nat.reduceEqDiff, Nat.reduceAdd, ↓reduceIte, get_pushB, get_putB, pickB_t, pickB_f, eqB_t, eqB_f, ltB_t, leB_t, AH.size_push, AH.size_put, AH.ro_push, AH.ro_put, hg2]
                refine callW_of (RefApart_ok _ p.l _ h2.l hmt ps _ hat2 hpl hok) ?_
                rintro r N2 ⟨rfl, rfl⟩
                simp (disch := omega) only [go_sem, Nat.reduceEqDiff, Nat.reduceAdd, ↓reduceIte, get_pushB, get_putB, pickB_t, pickB_f, eqB_t, eqB_f, ltB_t, leB_t, AH.size_push, AH.size_put, AH.ro_push, AH.ro_put]
                refine callW_of (num_ok _ _) ?_
                rintro r N2 ⟨rfl, rfl⟩
                simp (disch := omega) only [go_sem, Nat.reduceEqDiff, Nat.reduceAdd, ↓reduceIte, get_pushB, get_putB, pickB_t, pickB_f, eqB_t, eqB_f, ltB_t, leB_t, AH.size_push, AH.size_put, AH.ro_push, AH.ro_put, bool_ne, y1, z2]
                refine callW_of (EqNumbers_ok _ _ _ _ _ hat2 hu2) ?_
                rintro r N2 ⟨rfl, rfl⟩
                rw [decide_eq_true rfl]
                simp (disch := omega) only [go_sem, Nat.reduceEqDiff, Nat.reduceAdd, ↓reduceIte, get_pushB, get_putB, pickB_t, pickB_f, eqB_t, eqB_f, ltB_t, leB_t, AH.size_push, AH.size_put, AH.ro_push, AH.ro_put]
                refine ih _ _ _ ?_ ⟨k + 1, _, _, _, _, _, _, _, by omega, rfl, (hKM.trans hE1).trans hE2, by simp only [Int.natCast_add]; rfl⟩
                omega
          · obtain rfl : k = ls.length := by omega
            simp (disch := omega) only [go_sem, Nat.reduceEqDiff, Nat.reduceAdd, ↓reduceIte, get_pushB, get_putB, pickB_t, pickB_f, eqB_t, eqB_f, ltB_t, leB_t, AH.size_push, AH.size_put, AH.ro_push, AH.ro_put]
            refine callW_of (wakes_ok _ hrM) ?_
            rintro r K1 ⟨rfl, hE7⟩
            simp (disch := omega) only [go_sem, Nat.reduceEqDiff, Nat.reduceAdd, ↓reduceIte, get_pushB, get_putB, pickB_t, pickB_f, eqB_t, eqB_f, ltB_t, leB_t, AH.size_push, AH.size_put, AH.ro_push, AH.ro_put]
      · simp (disch := omega) only [go_sem, Nat.reduceEqDiff, Nat.reduceAdd, ↓reduceIte, get_pushB, get_putB, pickB_t, pickB_f, eqB_t, eqB_f, ltB_t, leB_t, AH.size_push, AH.size_put, AH.ro_push, AH.ro_put, bslice_2 stII (.slice xa ps0.length xc) (.slice ya ps0.length yc) rfl rfl, eK]
        refine Sat_loop 3000 (fun kk M V => ∃ (k : Nat) (x8 x9 x10 x11 x12 x13 x14 : Value), k ≤ ls.length ∧ kk = ls.length - k ∧ Ext K M ∧ V = [.agg #[.slice pl p.l.length cl, .slice pp p.p.length cp], .pointer (some ⟨H.size, 0, none⟩), .bool false, .slice la ls.length lc, .slice xa ps0.length xc, .slice ya ps0.length yc, .int .i64 i, .int .i64 k, x8, x9, x10, x11, x12, x13, x14]) ls.length ⟨0, _, _, _, _, _, _, _, by omega, rfl, Ext.refl _, rfl⟩ ?_
        rintro kk M V ⟨k, x8, x9, x10, x11, x12, x13, x14, hk, rfl, hKM, rfl⟩ ih
        have hrM : M.ro ≤ M.size := by have := hKM.ro; have := hKM.size; omega
        have hgM := hKM.get _ _ hgK
        have hM := hK.mono hKM
        have hLM := hLs.mono hKM
        simp (disch := omega) only [go_sem, Nat.reduceEqDiff, Nat.reduceAdd, ↓reduceIte, get_pushB, get_putB, pickB_t, pickB_f, eqB_t, eqB_f, ltB_t, leB_t, AH.size_push, AH.size_put, AH.ro_push, AH.ro_put]
        refine Split.mk (fun q1 => ?_) (fun q1 => ?_)
        · have hkl : k < ls.length := by omega
          have y1 := ixII hLM .i64 (k : Int) (by omega)
          obtain ⟨u, z1, hu⟩ := ldII hLM k hkl
          have hul := hll _ (List.getElem_mem hkl)
          obtain ⟨ps, hps⟩ : ∃ ps, ps = ls[k] := ⟨_, rfl⟩
          rw [← hps] at hu hul
          obtain ⟨ua, uc, rfl⟩ := hu.inv
          simp (disch := omega) only [go_sem, Nat.reduceEqDiff, Nat.reduceAdd, ↓reduceIte, get_pushB, get_putB, pickB_t, pickB_f, eqB_t, eqB_f, ltB_t, leB_t, AH.size_push, AH.size_put, AH.ro_push, AH.ro_put, y1, z1]
          refine callW_of (CopyNumbers_ok M hrM ps _ hu (by omega)) ?_
          rintro at_ M1 ⟨hat, hE1⟩
          have hr1 : M1.ro ≤ M1.size := by have := hE1.ro; have := hE1.size; omega
          have hg1 := hE1.get _ _ hgM
          have h1 := hM.mono hE1
          have hL1 := hLM.mono hE1
          have hatI := hat.ints
          obtain ⟨ta, tc, rfl⟩ := hatI.inv
          simp (disch := omega) only [go_sem, Nat.reduceEqDiff, Nat.reduceAdd, ↓reduceIte, get_pushB, get_putB, pickB_t, pickB_f, eqB_t, eqB_f, ltB_t, leB_t, AH.size_push, AH.size_put, AH.ro_push, AH.ro_put, hg1]
          refine callW_of (Check_ok M1 hr1 p.l _ h1.l ps _ hatI) ?_
          rintro r M2 ⟨rfl, hE2⟩
          have hr2 : M2.ro ≤ M2.size := by have := hE2.ro; have := hE2.size; omega
          have hg2 := hE2.get _ _ hg1
          have h2 := h1.mono hE2
          have hL2 := hL1.mono hE2
          have hat2 := hatI.mono hE2
          obtain ⟨g, hg⟩ : ∃ g : Bool, g = (mayL p.l && decide (ps.length = p.l.length)) := ⟨_, rfl⟩
          have hif : (if mayL p.l = true ∧ ps.length = p.l.length ∧ ps.all okAt = true then (0 : Int) else 1) = if (g && ps.all okAt) = true then 0 else 1 := by
            rw [hg]; simp only [Bool.and_eq_true, decide_eq_true_eq, and_assoc]
          rw [hif, ← hg]
          simp (disch := omega) only [go_sem, Nat.reduceEqDiff, Nat.reduceAdd, ↓reduceIte, get_pushB, get_putB, pickB_t, pickB_f, eqB_t, eqB_f, ltB_t, leB_t, AH.size_push, AH.size_put, AH.ro_push, AH.ro_put, hg2]
          refine callW_of (Lives_ok M2 p.l _ h2.l) ?_
          rintro r M3 ⟨rfl, rfl⟩
          rw [hm]
          simp (disch := omega) only [go_sem, Nat.reduceEqDiff, Nat.reduceAdd, ↓reduceIte, get_pushB, get_putB, pickB_t, pickB_f, eqB_t, eqB_f, ltB_t, leB_t, AH.size_push, AH.size_put, AH.ro_push, AH.ro_put, hg2]
          have hg0 : decide ((ps.length : Int) = (p.l.length : Int)) = g := by rw [hg, hm]; simp [Int.ofNat_inj]
          rw [hg0]
          refine Sat_loop 3000 (fun kk2 N V => ∃ (j : Nat), j ≤ ps.length ∧ kk2 = ps.length - j ∧ N = M3 ∧ V = [.agg #[.slice pl p.l.length cl, .slice pp p.p.length cp], .pointer (some ⟨H.size, 0, none⟩), .bool false, .slice la ls.length lc, .slice xa ps0.length xc, .slice ya ps0.length yc, .int .i64 i, .int .i64 k, .slice ta ps.length tc, .bool (g && ps.all okAt && apartP p.l ps), .int .i64 (if (g && ps.all okAt) = true then 0 else 1), .int .i64 1, .bool false, .bool (g && (ps.take j).all okAt), .int .i64 j]) ps.length ⟨0, by omega, rfl, rfl, by first | rfl | (rw [← hg0]; rfl) | simp⟩ ?_
          rintro kk2 N V ⟨j, hj, rfl, rfl, rfl⟩ ih3
          simp (disch := omega) only [go_sem, Nat.reduceEqDiff, Nat.reduceAdd, ↓reduceIte, get_pushB, get_putB, pickB_t, pickB_f, eqB_t, eqB_f, ltB_t, leB_t, AH.size_push, AH.size_put, AH.ro_push, AH.ro_put]
          refine Split.mk (fun q2 => ?_) (fun q2 => ?_)
          · have hjl : j < ps.length := by omega
            have y3 := ixI hat2 .i64 (j : Int) (by omega)
            have z3 := ldI hat2 (j : Int) (by omega)
            have ez : gi ps (j : Int) = ps[j] := by simp [gi, List.getD_eq_getElem?_getD, hjl]
            rw [ez] at z3
            have htk := take_all ps okAt j hjl
            cases hgd : (g && (ps.take j).all okAt)
            · simp (disch := omega) only [go_sem, Nat.reduceEqDiff, Nat.reduceAdd, ↓reduceIte, get_pushB, get_putB, pickB_t, pickB_f, eqB_t, eqB_f, ltB_t, leB_t, AH.size_push, AH.size_put, AH.ro_push, AH.ro_put]
              refine ih3 _ _ _ ?_ ⟨j + 1, by omega, rfl, rfl, by rw [htk, ← Bool.and_assoc, hgd]; simp only [Int.natCast_add]; rfl⟩
              omega
            · simp (disch := omega) only [go_sem, Nat.reduceEqDiff, Nat.reduceAdd, ↓reduceIte, get_pushB, get_putB, pickB_t, pickB_f, eqB_t, eqB_f, ltB_t, leB_t, AH.size_push, AH.size_put, AH.ro_push, AH.ro_put, y3, z3]
              refine callW_of (Num_ok _ _ _) ?_
              rintro r N2 ⟨rfl, rfl⟩
              simp (disch := omega) only [go_sem, Nat.reduceEqDiff, Nat.reduceAdd, ↓reduceIte, get_pushB, get_putB, pickB_t, pickB_f, eqB_t, eqB_f, ltB_t, leB_t, AH.size_push, AH.size_put, AH.ro_push, AH.ro_put]
              refine ih3 _ _ _ ?_ ⟨j + 1, by omega, rfl, rfl, by rw [htk, ← Bool.and_assoc, hgd]; simp only [Int.natCast_add]; rfl⟩
              omega
          · obtain rfl : j = ps.length := by omega
            rw [List.take_of_length_le (Nat.le_refl _)]
            obtain ⟨u2, z2, hu2⟩ := ldII hL2 k hkl
            rw [← hps] at hu2
            obtain ⟨ua2, uc2, rfl⟩ := hu2.inv
            cases hG : (g && ps.all okAt)
            · rw [Bool.false_and]
              simp (disch := omega) only [go_sem, Nat.reduceEqDiff, Nat.reduceAdd, ↓reduceIte, get_pushB, get_putB, pickB_t, pickB_f, eqB_t, eqB_f, ltB_t, leB_t, AH.size_push, AH.size_put, AH.ro_push, AH.ro_put]
              refine callW_of (num_ok _ _) ?_
              rintro r N2 ⟨rfl, rfl⟩
              simp (disch := omega) only [go_sem, Nat.reduceEqDiff, Nat.reduceAdd, ↓reduceIte, get_pushB, get_putB, pickB_t, pickB_f, eqB_t, eqB_f, ltB_t, leB_t, AH.size_push, AH.size_put, AH.ro_push, AH.ro_put, bool_ne, y1, z2]
              refine callW_of (EqNumbers_ok _ _ _ _ _ hat2 hu2) ?_
              rintro r N2 ⟨rfl, rfl⟩
              rw [decide_eq_true rfl]
              simp (disch := omega) only [go_sem, Nat.reduceEqDiff, Nat.reduceAdd, ↓reduceIte, get_pushB, get_putB, pickB_t, pickB_f, eqB_t, eqB_f, ltB_t, leB_t, AH.size_push, AH.size_put, AH.ro_push, AH.ro_put]
              refine ih _ _ _ ?_ ⟨k + 1, _, _, _, _, _, _, _, by omega, rfl, (hKM.trans hE1).trans hE2, by simp only [Int.natCast_add]; rfl⟩
              omega
            · have hgt : g = true := by rw [Bool.and_eq_true] at hG; exact hG.1
              have hok : ps.all okAt = true := by rw [Bool.and_eq_true] at hG; exact hG.2
              rw [hgt] at hg
              have hg := hg.symm
              rw [Bool.and_eq_true] at hg
              have hmt := hg.1
              have hpl := of_decide_eq_true hg.2
              simp (disch := omega) only [go_sem, Nat.reduceEqDiff, Nat.reduceAdd, ↓reduceIte, get_pushB, get_putB, pickB_t, pickB_f, eqB_t, eqB_f, ltB_t, leB_t, AH.size_push, AH.size_put, AH.ro_push, AH.ro_put, hg2]
              refine callW_of (RefApart_ok _ p.l _ h2.l hmt ps _ hat2 hpl hok) ?_
              rintro r N2 ⟨rfl, rfl⟩
              simp (disch := omega) only [go_sem, Nat.reduceEqDiff, Nat.reduceAdd, ↓reduceIte, get_pushB, get_putB, pickB_t, pickB_f, eqB_t, eqB_f, ltB_t, leB_t, AH.size_push, AH.size_put, AH.ro_push, AH.ro_put]
              refine callW_of (num_ok _ _) ?_
              rintro r N2 ⟨rfl, rfl⟩
              simp (disch := omega) only [go_sem, Nat.reduceEqDiff, Nat.reduceAdd, ↓reduceIte, get_pushB, get_putB, pickB_t, pickB_f, eqB_t, eqB_f, ltB_t, leB_t, AH.size_push, AH.size_put, AH.ro_push, AH.ro_put, bool_ne, y1, z2]
              refine callW_of (EqNumbers_ok _ _ _ _ _ hat2 hu2) ?_
              rintro r N2 ⟨rfl, rfl⟩
              rw [decide_eq_true rfl]
              simp (disch := omega) only [go_sem, Nat.reduceEqDiff, Nat.reduceAdd, ↓reduceIte, get_pushB, get_putB, pickB_t, pickB_f, eqB_t, eqB_f, ltB_t, leB_t, AH.size_push, AH.size_put, AH.ro_push, AH.ro_put]
              refine ih _ _ _ ?_ ⟨k + 1, _, _, _, _, _, _, _, by omega, rfl, (hKM.trans hE1).trans hE2, by simp only [Int.natCast_add]; rfl⟩
              omega
        · obtain rfl : k = ls.length := by omega
          simp (disch := omega) only [go_sem, Nat.reduceEqDiff, Nat.reduceAdd, ↓reduceIte, get_pushB, get_putB, pickB_t, pickB_f, eqB_t, eqB_f, ltB_t, leB_t, AH.size_push, AH.size_put, AH.ro_push, AH.ro_put]
          refine callW_of (wakes_ok _ hrM) ?_
          rintro r K1 ⟨rfl, hE7⟩
          simp (disch := omega) only [go_sem, Nat.reduceEqDiff, Nat.reduceAdd, ↓reduceIte, get_pushB, get_putB, pickB_t, pickB_f, eqB_t, eqB_f, ltB_t, leB_t, AH.size_push, AH.size_put, AH.ro_push, AH.ro_put]
  · simp (disch := omega) only [go_sem, Nat.reduceEqDiff, Nat.reduceAdd, ↓reduceIte, get_pushB, get_putB, pickB_t, pickB_f, eqB_t, eqB_f, ltB_t, leB_t, AH.size_push, AH.size_put, AH.ro_push, AH.ro_put]
end Go.Proofs.A
