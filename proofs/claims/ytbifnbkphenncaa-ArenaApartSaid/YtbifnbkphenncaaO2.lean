/- Arena: the law ArenaApart. -/
import Derived.Test.YtbifnbkphenncaaO1
set_option linter.unusedVariables false
set_option maxRecDepth 8000
set_option maxHeartbeats 4000000
set_option linter.unusedSimpArgs false
namespace Go.Proofs.A
open Go Go.Ab
theorem Heavy_ok (H : AH) (h0 : H.ro ≤ H.size) (p : Ask) (vl vp : Value) (h : AskV H vl vp p) : Runs tb 11 [.agg #[vl, vp]] H (fun r H' => (∃ b, r = .bool b) ∧ Ext H H') := by
  obtain ⟨pl, cl, rfl⟩ := h.l.inv
  obtain ⟨pp, cp, rfl⟩ := h.p.inv
  have hE := Ext.push H [Value.slice pl p.l.length cl, Value.slice pp p.p.length cp]
  refine Runs_fn (fn := Try.f11) [.tmp 2] [0, 1, 2] [] 3000 (by kernel_rfl) rfl (by kernel_rfl) (by kernel_rfl) rfl ?_; simp only [pad, argAt]
  simp (disch := omega) only [go_sem, Nat.reduceEqDiff, Nat.reduceAdd, ↓reduceIte, get_pushB, get_putB, pickB_t, pickB_f, eqB_t, eqB_f, ltB_t, leB_t, AH.size_push, AH.size_put, AH.ro_push, AH.ro_put]
  refine SplitG.mk (fun h1 => ?_) (fun h1 => ?_)
  · simp (disch := omega) only [go_sem, Nat.reduceEqDiff, Nat.reduceAdd, ↓reduceIte, get_pushB, get_putB, pickB_t, pickB_f, eqB_t, eqB_f, ltB_t, leB_t, AH.size_push, AH.size_put, AH.ro_push, AH.ro_put]
    refine SplitG.mk (fun h2 => ?_) (fun h2 => ?_)
    · simp (disch := omega) only [go_sem, Nat.reduceEqDiff, Nat.reduceAdd, ↓reduceIte, get_pushB, get_putB, pickB_t, pickB_f, eqB_t, eqB_f, ltB_t, leB_t, AH.size_push, AH.size_put, AH.ro_push, AH.ro_put]
      exact ⟨⟨_, rfl⟩, hE⟩
    · simp (disch := omega) only [go_sem, Nat.reduceEqDiff, Nat.reduceAdd, ↓reduceIte, get_pushB, get_putB, pickB_t, pickB_f, eqB_t, eqB_f, ltB_t, leB_t, AH.size_push, AH.size_put, AH.ro_push, AH.ro_put]
      refine SplitG.mk (fun h3 => ?_) (fun h3 => ?_)
      · simp (disch := omega) only [go_sem, Nat.reduceEqDiff, Nat.reduceAdd, ↓reduceIte, get_pushB, get_putB, pickB_t, pickB_f, eqB_t, eqB_f, ltB_t, leB_t, AH.size_push, AH.size_put, AH.ro_push, AH.ro_put]
        exact ⟨⟨_, rfl⟩, hE⟩
      · simp (disch := omega) only [go_sem, Nat.reduceEqDiff, Nat.reduceAdd, ↓reduceIte, get_pushB, get_putB, pickB_t, pickB_f, eqB_t, eqB_f, ltB_t, leB_t, AH.size_push, AH.size_put, AH.ro_push, AH.ro_put]
        exact ⟨⟨_, rfl⟩, hE⟩
  · simp (disch := omega) only [go_sem, Nat.reduceEqDiff, Nat.reduceAdd, ↓reduceIte, get_pushB, get_putB, pickB_t, pickB_f, eqB_t, eqB_f, ltB_t, leB_t, AH.size_push, AH.size_put, AH.ro_push, AH.ro_put]
    exact ⟨⟨_, rfl⟩, hE⟩
theorem sumM_bd {l : List Lf} (hm : mayL l = true) (j : Nat) (hj : j ≤ l.length) : 0 ≤ sumS l j ∧ sumS l j ≤ 4096 * j := by
  induction j with
  | zero => simp [sumS]
  | succ j ih =>
    have ih := ih (by omega)
    have := okL_of hm (show j < l.length by omega)
    rw [sumS]
    omega
theorem ArenaApart_ok (H : AH) (h0 : H.ro ≤ H.size) (p : Ask) (vl vp : Value) (h : AskV H vl vp p) : Runs tb 7 [.agg #[vl, vp]] H (fun r _ => r = .bool true) := by
  obtain ⟨pl, cl, rfl⟩ := h.l.inv
  obtain ⟨pp, cp, rfl⟩ := h.p.inv
  have hbl := h.l.bd
  refine Runs_fn (fn := Try.f7) [.tmp 2] [0, 1, 2, 3, 4, 5, 6, 7, 8, 9, 10, 11, 12, 13, 14, 15, 16, 17] [] 3000 (by kernel_rfl) rfl (by kernel_rfl) (by kernel_rfl) rfl ?_; simp only [pad, argAt]
  simp (disch := omega) only [go_sem, Nat.reduceEqDiff, Nat.reduceAdd, ↓reduceIte, get_pushB, get_putB, pickB_t, pickB_f, eqB_t, eqB_f, ltB_t, leB_t, AH.size_push, AH.size_put, AH.ro_push, AH.ro_put]
  have hgB : (H.push [Value.slice pl p.l.length cl, Value.slice pp p.p.length cp]).get H.size = some [Value.slice pl p.l.length cl, Value.slice pp p.p.length cp] := by rw [AH.get_push, if_pos rfl]
  have hr0 := push_ok h0 [Value.slice pl p.l.length cl, Value.slice pp p.p.length cp]
  have hB := h.mono (Ext.push H [Value.slice pl p.l.length cl, Value.slice pp p.p.length cp])
  generalize (H.push [Value.slice pl p.l.length cl, Value.slice pp p.p.length cp]) = G at *
  refine callW_of (Heavy_ok G hr0 p _ _ hB) ?_
  rintro r G1 ⟨⟨b, rfl⟩, hE1⟩
  have hr1 : G1.ro ≤ G1.size := by have := hE1.ro; have := hE1.size; omega
  cases b
  · have hg1 := hE1.get _ _ hgB
    have h1 := hB.mono hE1
    simp (disch := omega) only [go_sem, Nat.reduceEqDiff, Nat.reduceAdd, ↓reduceIte, get_pushB, get_putB, pickB_t, pickB_f, eqB_t, eqB_f, ltB_t, leB_t, AH.size_push, AH.size_put, AH.ro_push, AH.ro_put, hg1]
    refine callW_of (Place_ok G1 hr1 _ _ h1.l) ?_
    rintro r G2 ⟨⟨x, rfl, hx⟩, hE2⟩
    have hr2 : G2.ro ≤ G2.size := by have := hE2.ro; have := hE2.size; omega
    have hg2 := hE2.get _ _ hg1
    have h2 := h1.mono hE2
    have hxI := hx.ints
    obtain ⟨xa, xc, rfl⟩ := hxI.inv
    cases hm : mayL p.l
    · simp (disch := omega) only [go_sem, Nat.reduceEqDiff, Nat.reduceAdd, ↓reduceIte, get_pushB, get_putB, pickB_t, pickB_f, eqB_t, eqB_f, ltB_t, leB_t, AH.size_push, AH.size_put, AH.ro_push, AH.ro_put]
      refine callW_of (num_ok _ _) ?_
      rintro r G3 ⟨rfl, rfl⟩
      simp (disch := omega) only [go_sem, Nat.reduceEqDiff, Nat.reduceAdd, ↓reduceIte, get_pushB, get_putB, pickB_t, pickB_f, eqB_t, eqB_f, ltB_t, leB_t, AH.size_push, AH.size_put, AH.ro_push, AH.ro_put]
    · have hlen := mayL_len hm
      have hpl := placeL_len p.l p.l.length
      obtain ⟨hap, hok⟩ := apart_placed hm
      have hpre := fun n => placeL_pre p.l n (p.l.length - n)
      have hhb := bmost_le hm p.l.length
      have hha := hgt_all hm
      have htk := hgt_take hm
      have hh0 := hgt_nn p.l (placeL p.l p.l.length) p.l.length
      simp only [hm, ↓reduceIte] at hxI ⊢
      obtain ⟨ps, hps⟩ : ∃ ps, ps = placeL p.l p.l.length := ⟨_, rfl⟩
      rw [← hps] at hpl hap hok hhb hha htk hh0 hxI ⊢
      simp (disch := omega) only [go_sem, Nat.reduceEqDiff, Nat.reduceAdd, ↓reduceIte, get_pushB, get_putB, pickB_t, pickB_f, eqB_t, eqB_f, ltB_t, leB_t, AH.size_push, AH.size_put, AH.ro_push, AH.ro_put]
      refine callW_of (num_ok _ _) ?_
      rintro r G3 ⟨rfl, rfl⟩
      simp (disch := omega) only [go_sem, Nat.reduceEqDiff, Nat.reduceAdd, ↓reduceIte, get_pushB, get_putB, pickB_t, pickB_f, eqB_t, eqB_f, ltB_t, leB_t, AH.size_push, AH.size_put, AH.ro_push, AH.ro_put, hg2]
      refine callW_of (Check_ok G3 hr2 p.l _ h2.l ps _ hxI) ?_
      rintro r G4 ⟨rfl, hE4⟩
      have hg4 := hE4.get _ _ hg2
      have h4 := h2.mono hE4
      have hr4 : G4.ro ≤ G4.size := by have := hE4.ro; have := hE4.size; omega
      have hc : (mayL p.l && decide (ps.length = p.l.length) && ps.all okAt && apartP p.l ps) = true := by rw [hm, hap, hok, hpl]; simp
      have hc2 : (if mayL p.l = true ∧ ps.length = p.l.length ∧ ps.all okAt = true then (0 : Int) else 1) = 0 := if_pos ⟨hm, hpl, hok⟩
      rw [hc, hc2]
      simp (disch := omega) only [go_sem, Nat.reduceEqDiff, Nat.reduceAdd, ↓reduceIte, get_pushB, get_putB, pickB_t, pickB_f, eqB_t, eqB_f, ltB_t, leB_t, AH.size_push, AH.size_put, AH.ro_push, AH.ro_put, hg4]
      refine callW_of (Height_ok G4 hr4 p.l _ h4.l) ?_
      rintro r G5 ⟨rfl, hE5⟩
      have hg5 := hE5.get _ _ hg4
      have h5 := h4.mono hE5
      have hr5 : G5.ro ≤ G5.size := by have := hE5.ro; have := hE5.size; omega
      simp only [hm, ↓reduceIte]
      rw [← hps]
      simp (disch := omega) only [go_sem, Nat.reduceEqDiff, Nat.reduceAdd, ↓reduceIte, get_pushB, get_putB, pickB_t, pickB_f, eqB_t, eqB_f, ltB_t, leB_t, AH.size_push, AH.size_put, AH.ro_push, AH.ro_put, hg5]
      refine callW_of (Bound_ok G5 hr5 p.l _ h5.l) ?_
      rintro r G6 ⟨rfl, hE6⟩
      have hg6 := hE6.get _ _ hg5
      have h6 := h5.mono hE6
      have hr6 : G6.ro ≤ G6.size := by have := hE6.ro; have := hE6.size; omega
      have hx6 := ((hxI.mono hE4).mono hE5).mono hE6
      simp only [hm, ↓reduceIte]
      obtain ⟨hh, ehh⟩ : ∃ hh, hh = hgt p.l ps p.l.length := ⟨_, rfl⟩
      obtain ⟨bb, ebb⟩ : ∃ bb, bb = bmost p.l p.l.length := ⟨_, rfl⟩
      rw [← ehh] at hhb hha htk hh0 ⊢
      rw [← ebb] at hhb ⊢
      simp (disch := omega) only [go_sem, Nat.reduceEqDiff, Nat.reduceAdd, ↓reduceIte, get_pushB, get_putB, pickB_t, pickB_f, eqB_t, eqB_f, ltB_t, leB_t, AH.size_push, AH.size_put, AH.ro_push, AH.ro_put]
      refine Sat_loop 3000 (fun k K V => ∃ (j : Nat), j ≤ p.l.length ∧ k = p.l.length - j ∧ K = G6 ∧ V = [.agg #[.slice pl p.l.length cl, .slice pp p.p.length cp], .pointer (some ⟨H.size, 0, none⟩), .bool false, .slice xa ps.length xc, .int .i64 0, .bool true, .int .i64 0, .int .i64 hh, .int .i64 0, .int .i64 bb, .int .i64 0, .int .i64 (sumS p.l j), .int .i64 j, undef, undef, undef, undef, undef]) p.l.length ⟨0, by omega, rfl, rfl, rfl⟩ ?_
      rintro k K V ⟨j, hj, rfl, rfl, rfl⟩ ih
      obtain ⟨hs1, hs2⟩ := sumM_bd hm j hj
      simp (disch := omega) only [go_sem, Nat.reduceEqDiff, Nat.reduceAdd, ↓reduceIte, get_pushB, get_putB, pickB_t, pickB_f, eqB_t, eqB_f, ltB_t, leB_t, AH.size_push, AH.size_put, AH.ro_push, AH.ro_put, hg6]
      refine Split.mk (fun g1 => ?_) (fun g1 => ?_)
      · have hlt : j < p.l.length := by omega
        have y1 := ixL h6.l .i64 (j : Int) (by omega)
        have f1 := (faL h6.l (j : Int) (by omega)).2.2
        have z1 := (lfL h6.l (j : Int) (by omega)).2.2
        simp only [Int.toNat_natCast] at z1
        have o1 := okL_of hm hlt
        simp (disch := omega) only [go_sem, Nat.reduceEqDiff, Nat.reduceAdd, ↓reduceIte, get_pushB, get_putB, pickB_t, pickB_f, eqB_t, eqB_f, ltB_t, leB_t, AH.size_push, AH.size_put, AH.ro_push, AH.ro_put, hg6, y1, f1, z1]
        refine ih _ _ _ ?_ ⟨j + 1, by omega, rfl, rfl, by rw [sumS]; simp only [Int.natCast_add]; rfl⟩
        omega
      · obtain rfl : j = p.l.length := by omega
        simp (disch := omega) only [go_sem, Nat.reduceEqDiff, Nat.reduceAdd, ↓reduceIte, get_pushB, get_putB, pickB_t, pickB_f, eqB_t, eqB_f, ltB_t, leB_t, AH.size_push, AH.size_put, AH.ro_push, AH.ro_put]
        refine callW_of (num_ok _ _) ?_
        rintro r G7 ⟨rfl, rfl⟩
        simp (disch := omega) only [go_sem, Nat.reduceEqDiff, Nat.reduceAdd, ↓reduceIte, get_pushB, get_putB, pickB_t, pickB_f, eqB_t, eqB_f, ltB_t, leB_t, AH.size_push, AH.size_put, AH.ro_push, AH.ro_put]
        refine callW_of (num_ok _ _) ?_
        rintro r G7 ⟨rfl, rfl⟩
        simp (disch := omega) only [go_sem, Nat.reduceEqDiff, Nat.reduceAdd, ↓reduceIte, get_pushB, get_putB, pickB_t, pickB_f, eqB_t, eqB_f, ltB_t, leB_t, AH.size_push, AH.size_put, AH.ro_push, AH.ro_put]
        refine callW_of (num_ok _ _) ?_
        rintro r G7 ⟨rfl, rfl⟩
        simp (disch := omega) only [go_sem, Nat.reduceEqDiff, Nat.reduceAdd, ↓reduceIte, get_pushB, get_putB, pickB_t, pickB_f, eqB_t, eqB_f, ltB_t, leB_t, AH.size_push, AH.size_put, AH.ro_push, AH.ro_put, hg6]
        refine Sat_loop 3000 (fun k K V => ∃ (n : Nat) (x14 x15 x16 x17 : Value), n ≤ 1000 ∧ k = p.l.length - n ∧ Ext G7 K ∧ V = [.agg #[.slice pl p.l.length cl, .slice pp p.p.length cp], .pointer (some ⟨H.size, 0, none⟩), .bool false, .slice xa ps.length xc, .int .i64 0, .bool true, .int .i64 0, .int .i64 hh, .int .i64 0, .int .i64 bb, .int .i64 0, .int .i64 (sumS p.l p.l.length), .int .i64 p.l.length, .int .i64 n, x14, x15, x16, x17]) p.l.length ⟨0, _, _, _, _, by omega, rfl, Ext.refl _, rfl⟩ ?_
        rintro k K V ⟨n, x14, x15, x16, x17, hn, rfl, hEK, rfl⟩ ih2
        have hrK : K.ro ≤ K.size := by have := hEK.ro; have := hEK.size; omega
        have hgK := hEK.get _ _ hg6
        have hK := h6.mono hEK
        simp (disch := omega) only [go_sem, Nat.reduceEqDiff, Nat.reduceAdd, ↓reduceIte, get_pushB, get_putB, pickB_t, pickB_f, eqB_t, eqB_f, ltB_t, leB_t, AH.size_push, AH.size_put, AH.ro_push, AH.ro_put, hgK]
        refine Split.mk (fun q1 => ?_) (fun q1 => ?_)
        · have hlt : n < p.l.length := by omega
          have hmt := mayL_take hm n (by omega)
          have hht := htk n (by omega)
          have hptt := placeL_take p.l n n (Nat.le_refl _)
          rw [hptt] at hht
          have hpr := hpre n
          rw [show n + (p.l.length - n) = p.l.length by omega, ← hps] at hpr
          have htl : (p.l.take n).length = n := by simp; omega
          obtain ⟨sa, sc, es, hs⟩ := Sl.sub hK.l ty22 rfl ty27 rfl none (some (.int .i64 (n : Int))) 0 n (by simp [abound]; omega) (by simp [abound])
          simp only [Nat.sub_zero, List.drop_zero] at es hs
          simp (disch := omega) only [go_sem, Nat.reduceEqDiff, Nat.reduceAdd, ↓reduceIte, get_pushB, get_putB, pickB_t, pickB_f, eqB_t, eqB_f, ltB_t, leB_t, AH.size_push, AH.size_put, AH.ro_push, AH.ro_put, hgK, es]
          refine callW_of (Height_ok K hrK _ _ hs) ?_
          rintro r K1 ⟨rfl, hE7⟩
          have hgK1 := hE7.get _ _ hgK
          have hs1 := Lfs.ext hs hE7
          have hrK1 : K1.ro ≤ K1.size := by have := hE7.ro; have := hE7.size; omega
          simp only [hmt, ↓reduceIte, htl]
          simp (disch := omega) only [go_sem, Nat.reduceEqDiff, Nat.reduceAdd, ↓reduceIte, get_pushB, get_putB, pickB_t, pickB_f, eqB_t, eqB_f, ltB_t, leB_t, AH.size_push, AH.size_put, AH.ro_push, AH.ro_put, hgK1, es]
          refine callW_of (Place_ok K1 hrK1 _ _ hs1) ?_
          rintro r K2 ⟨⟨y, rfl, hy⟩, hE8⟩
          have hgK2 := hE8.get _ _ hgK1
          have hy := hy.ints
          simp only [hmt, ↓reduceIte, htl, hptt] at hy ⊢
          have hx8 := ((hx6.mono hEK).mono hE7).mono hE8
          have hyl := placeL_len p.l n
          obtain ⟨ya, yc, rfl⟩ := hy.inv
          obtain ⟨za, zc, ez, hz⟩ := Sl.sub hx8 ty23 rfl ty3 rfl none (some (.int .i64 (n : Int))) 0 n (by simp [abound]; omega) (by simp [abound])
          simp only [Nat.sub_zero, List.drop_zero] at ez hz
          rw [← hpr] at hz
          rw [hyl] at hy ⊢
          simp (disch := omega) only [go_sem, Nat.reduceEqDiff, Nat.reduceAdd, ↓reduceIte, get_pushB, get_putB, pickB_t, pickB_f, eqB_t, eqB_f, ltB_t, leB_t, AH.size_push, AH.size_put, AH.ro_push, AH.ro_put]
          refine callW_of (num_ok _ _) ?_
          rintro r K3 ⟨rfl, rfl⟩
          simp (disch := omega) only [go_sem, Nat.reduceEqDiff, Nat.reduceAdd, ↓reduceIte, get_pushB, get_putB, pickB_t, pickB_f, eqB_t, eqB_f, ltB_t, leB_t, AH.size_push, AH.size_put, AH.ro_push, AH.ro_put]
          refine callW_of (num_ok _ _) ?_
          rintro r K3 ⟨rfl, rfl⟩
          simp (disch := omega) only [go_sem, Nat.reduceEqDiff, Nat.reduceAdd, ↓reduceIte, get_pushB, get_putB, pickB_t, pickB_f, eqB_t, eqB_f, ltB_t, leB_t, AH.size_push, AH.size_put, AH.ro_push, AH.ro_put, ez]
          refine callW_of (EqNumbers_ok _ _ _ _ _ hy hz) ?_
          rintro r K3 ⟨rfl, rfl⟩
          simp (disch := omega) only [go_sem, Nat.reduceEqDiff, Nat.reduceAdd, ↓reduceIte, get_pushB, get_putB, pickB_t, pickB_f, eqB_t, eqB_f, ltB_t, leB_t, AH.size_push, AH.size_put, AH.ro_push, AH.ro_put, hgK2]
          refine ⟨by decide, ?_⟩
          have e3 : IntKind.i64.wrap ((n : Int) + 1 + IntKind.i64.wrap ((p.l.length : Int).tdiv 6)) = ((n + 1 + p.l.length / 6 : Nat) : Int) := by
            rw [Int.tdiv_eq_ediv_of_nonneg (by omega)]
            simp (disch := omega) only [IntWalk.i64_in]
            omega
          rw [e3]
          refine ih2 _ _ _ ?_ ⟨n + 1 + p.l.length / 6, _, _, _, _, by omega, rfl, (hEK.trans hE7).trans hE8, rfl⟩
          omega
        · simp (disch := omega) only [go_sem, Nat.reduceEqDiff, Nat.reduceAdd, ↓reduceIte, get_pushB, get_putB, pickB_t, pickB_f, eqB_t, eqB_f, ltB_t, leB_t, AH.size_push, AH.size_put, AH.ro_push, AH.ro_put]
          refine callW_of (Within_ok _) ?_
          rintro r K1 ⟨rfl, rfl⟩
          simp (disch := omega) only [go_sem, Nat.reduceEqDiff, Nat.reduceAdd, ↓reduceIte, get_pushB, get_putB, pickB_t, pickB_f, eqB_t, eqB_f, ltB_t, leB_t, AH.size_push, AH.size_put, AH.ro_push, AH.ro_put]
          refine callW_of (wakes_ok _ hrK) ?_
          rintro r K1 ⟨rfl, hE7⟩
          simp (disch := omega) only [go_sem, Nat.reduceEqDiff, Nat.reduceAdd, ↓reduceIte, get_pushB, get_putB, pickB_t, pickB_f, eqB_t, eqB_f, ltB_t, leB_t, AH.size_push, AH.size_put, AH.ro_push, AH.ro_put]
  · simp (disch := omega) only [go_sem, Nat.reduceEqDiff, Nat.reduceAdd, ↓reduceIte, get_pushB, get_putB, pickB_t, pickB_f, eqB_t, eqB_f, ltB_t, leB_t, AH.size_push, AH.size_put, AH.ro_push, AH.ro_put]
end Go.Proofs.A
