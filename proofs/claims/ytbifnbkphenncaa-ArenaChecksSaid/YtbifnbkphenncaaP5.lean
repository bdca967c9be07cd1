/- Parts of a proof about this program: contracts of its functions. -/
import Derived.Test.YtbifnbkphenncaaP4
/- Arena: Bound. -/
set_option linter.unusedVariables false
set_option maxRecDepth 8000
set_option maxHeartbeats 4000000
set_option linter.unusedSimpArgs false
namespace Go.Proofs.A
open Go Go.Ab
def bsum (l : List Lf) (i : Nat) : Nat → Int
  | 0 => 0
  | k + 1 => bsum l i k + (if l[k]!.f ≤ l[i]!.f ∧ l[i]!.f < l[k]!.t then l[k]!.s else 0)
def bmost (l : List Lf) : Nat → Int
  | 0 => 0
  | i + 1 => max (bmost l i) (bsum l i l.length)
theorem bsum_bd (l : List Lf) (i k : Nat) (hs : ∀ q, q < k → 0 ≤ l[q]!.s ∧ l[q]!.s ≤ 4096) : 0 ≤ bsum l i k ∧ bsum l i k ≤ 4096 * k := by
  induction k with
  | zero => simp [bsum]
  | succ k ih =>
    have := ih (fun q hq => hs q (by omega))
    have := hs k (by omega)
    simp only [bsum]
    split <;> omega
theorem bmost_bd (l : List Lf) (i : Nat) (hs : ∀ q, q < l.length → 0 ≤ l[q]!.s ∧ l[q]!.s ≤ 4096) : 0 ≤ bmost l i ∧ bmost l i ≤ 4096 * l.length := by
  induction i with
  | zero => simp [bmost]; omega
  | succ i ih =>
    have := bsum_bd l i l.length hs
    simp only [bmost]
    omega
theorem Bound_ok (H : AH) (hr0 : H.ro ≤ H.size) (l : List Lf) (v : Value) (h : Lfs H v l) : Runs tb 15 [v] H (fun r H' => r = .tuple #[.int .i64 (if mayL l then bmost l l.length else 0), .int .i64 (if mayL l then 0 else 1)] ∧ Ext H H') := by
  obtain ⟨a, c, rfl⟩ := h.inv
  refine Runs_fn (fn := Try.f15) [.tmp 2, .tmp 3] [0, 2, 3, 4, 6, 7, 9, 13, 14, 15, 19, 20, 21] [] 3000 (by kernel_rfl) rfl (by kernel_rfl) (by kernel_rfl) rfl ?_; simp only [pad, argAt]
  simp (disch := omega) only [go_sem, Nat.reduceEqDiff, Nat.reduceAdd, ↓reduceIte, get_pushB, get_putB, pickB_t, pickB_f, eqB_t, eqB_f, ltB_t, leB_t, AH.size_push, AH.size_put, AH.ro_push, AH.ro_put]
  refine callW_of (may_ok H hr0 l _ h) ?_
  rintro r G ⟨rfl, hE⟩
  have hrG : G.ro ≤ G.size := by have := hE.ro; have := hE.size; omega
  cases hm : mayL l
  · simp (disch := omega) only [go_sem, Nat.reduceEqDiff, Nat.reduceAdd, ↓reduceIte, get_pushB, get_putB, pickB_t, pickB_f, eqB_t, eqB_f, ltB_t, leB_t, AH.size_push, AH.size_put, AH.ro_push, AH.ro_put]
    exact hE
  · have hlen := mayL_len hm
    have hL := h.ext hE
    have hs : ∀ q, q < l.length → 0 ≤ l[q]!.s ∧ l[q]!.s ≤ 4096 := fun q hq => by have := okL_of hm hq; omega
    simp (disch := omega) only [go_sem, Nat.reduceEqDiff, Nat.reduceAdd, ↓reduceIte, get_pushB, get_putB, pickB_t, pickB_f, eqB_t, eqB_f, ltB_t, leB_t, AH.size_push, AH.size_put, AH.ro_push, AH.ro_put]
    refine Sat_loop 3000 (fun k K V => ∃ (i : Nat) (x4 x5 x6 x10 x11 x12 : Value), i ≤ l.length ∧ k = l.length - i ∧ Ext H K ∧ V = [.slice a l.length c, .int .i64 0, .int .i64 0, .int .i64 (bmost l i), x4, x5, x6, .slice a l.length c, .int .i64 l.length, .int .i64 i, x10, x11, x12]) l.length ⟨0, _, _, _, _, _, _, by omega, rfl, hE, rfl⟩ ?_
    rintro k K V ⟨i, x4, x5, x6, x10, x11, x12, hi, rfl, hEK, rfl⟩ ih
    have hrK : K.ro ≤ K.size := by have := hEK.ro; have := hEK.size; omega
    obtain ⟨b1, b2⟩ := bmost_bd l i hs
    simp (disch := omega) only [go_sem, Nat.reduceEqDiff, Nat.reduceAdd, ↓reduceIte, get_pushB, get_putB, pickB_t, pickB_f, eqB_t, eqB_f, ltB_t, leB_t, AH.size_push, AH.size_put, AH.ro_push, AH.ro_put]
    refine Split.mk (fun h1 => ?_) (fun h1 => ?_)
    · have hlt : i < l.length := by omega
      have hK := h.ext hEK
      have y1 := ixL hK .i64 (i : Int) (by omega)
      have z1 := ldL hK (i : Int) (by omega)
      simp only [Int.toNat_natCast] at z1
      simp (disch := omega) only [go_sem, Nat.reduceEqDiff, Nat.reduceAdd, ↓reduceIte, get_pushB, get_putB, pickB_t, pickB_f, eqB_t, eqB_f, ltB_t, leB_t, AH.size_push, AH.size_put, AH.ro_push, AH.ro_put, y1, z1, lfv]
      have hE1 : Ext K ((K.push [Value.int IntKind.i64 0, Value.int IntKind.i64 0, Value.int IntKind.i64 0]).put K.size (some [Value.int IntKind.i64 l[i]!.f, Value.int IntKind.i64 l[i]!.t, Value.int IntKind.i64 l[i]!.s])) := (Fr.put K.size _ (by simp) _).ext (Ext.push K _) (Nat.le_refl _)
      have hgx : ((K.push [Value.int IntKind.i64 0, Value.int IntKind.i64 0, Value.int IntKind.i64 0]).put K.size (some [Value.int IntKind.i64 l[i]!.f, Value.int IntKind.i64 l[i]!.t, Value.int IntKind.i64 l[i]!.s])).get K.size = some [Value.int IntKind.i64 l[i]!.f, Value.int IntKind.i64 l[i]!.t, Value.int IntKind.i64 l[i]!.s] := by rw [AH.get_put _ _ _ _ (by simp), if_pos rfl]
      generalize ((K.push [Value.int IntKind.i64 0, Value.int IntKind.i64 0, Value.int IntKind.i64 0]).put K.size (some [Value.int IntKind.i64 l[i]!.f, Value.int IntKind.i64 l[i]!.t, Value.int IntKind.i64 l[i]!.s])) = G2 at *
      refine Sat_loop 3000 (fun kk M V => ∃ (k : Nat) (x6 : Value), k ≤ l.length ∧ kk = l.length - k ∧ Ext G2 M ∧ V = [.slice a l.length c, .int .i64 0, .int .i64 0, .int .i64 (bmost l i), .pointer (some ⟨K.size, 0, none⟩), .int .i64 (bsum l i k), x6, .slice a l.length c, .int .i64 l.length, .int .i64 i, .slice a l.length c, .int .i64 l.length, .int .i64 k]) l.length ⟨0, _, by omega, rfl, Ext.refl _, rfl⟩ ?_
      rintro kk M V ⟨k, x6, hk, rfl, hEM, rfl⟩ ih2
      have hrM : M.ro ≤ M.size := by have := hEM.ro; have := hEM.size; have := hE1.ro; have := hE1.size; omega
      obtain ⟨c1, c2⟩ := bsum_bd l i k (fun q hq => hs q (by omega))
      simp (disch := omega) only [go_sem, Nat.reduceEqDiff, Nat.reduceAdd, ↓reduceIte, get_pushB, get_putB, pickB_t, pickB_f, eqB_t, eqB_f, ltB_t, leB_t, AH.size_push, AH.size_put, AH.ro_push, AH.ro_put]
      refine Split.mk (fun h2 => ?_) (fun h2 => ?_)
      · have hkl : k < l.length := by omega
        have hsM := (hK.ext hE1).ext hEM
        have hgM := hEM.get _ _ hgx
        have hKM : K.size < M.size := AH.lt_of_get hgM
        have y2 := ixL hsM .i64 (k : Int) (by omega)
        have z2 := ldL hsM (k : Int) (by omega)
        simp only [Int.toNat_natCast] at z2
        have hsk := hs k hkl
        have hbs : bsum l i (k + 1) = bsum l i k + (if l[k]!.f ≤ l[i]!.f ∧ l[i]!.f < l[k]!.t then l[k]!.s else 0) := rfl
        simp (disch := omega) only [go_sem, Nat.reduceEqDiff, Nat.reduceAdd, ↓reduceIte, get_pushB, get_putB, pickB_t, pickB_f, eqB_t, eqB_f, ltB_t, leB_t, AH.size_push, AH.size_put, AH.ro_push, AH.ro_put, y2, z2, lfv, hgM]
        refine SplitG.mk (fun g1 => ?_) (fun g1 => ?_)
        · simp (disch := omega) only [go_sem, Nat.reduceEqDiff, Nat.reduceAdd, ↓reduceIte, get_pushB, get_putB, pickB_t, pickB_f, eqB_t, eqB_f, ltB_t, leB_t, AH.size_push, AH.size_put, AH.ro_push, AH.ro_put, hgM]
          refine Split.mk (fun g2 => ?_) (fun g2 => ?_)
          · rw [if_pos ⟨g1, g2⟩] at hbs
            simp (disch := omega) only [go_sem, Nat.reduceEqDiff, Nat.reduceAdd, ↓reduceIte, get_pushB, get_putB, pickB_t, pickB_f, eqB_t, eqB_f, ltB_t, leB_t, AH.size_push, AH.size_put, AH.ro_push, AH.ro_put]
            refine ih2 _ _ _ ?_ ⟨k + 1, _, by omega, rfl, hEM.trans ((Fr.put M.size _ (by simp) _).ext (Ext.push M _) (Nat.le_refl _)), by rw [hbs]; simp only [Int.natCast_add]; rfl⟩
            omega
          · rw [if_neg (fun h => g2 h.2), Int.add_zero] at hbs
            simp (disch := omega) only [go_sem, Nat.reduceEqDiff, Nat.reduceAdd, ↓reduceIte, get_pushB, get_putB, pickB_t, pickB_f, eqB_t, eqB_f, ltB_t, leB_t, AH.size_push, AH.size_put, AH.ro_push, AH.ro_put]
            refine ih2 _ _ _ ?_ ⟨k + 1, _, by omega, rfl, hEM.trans ((Fr.put M.size _ (by simp) _).ext (Ext.push M _) (Nat.le_refl _)), by rw [hbs]; simp only [Int.natCast_add]; rfl⟩
            omega
        · rw [if_neg (fun h => g1 h.1), Int.add_zero] at hbs
          simp (disch := omega) only [go_sem, Nat.reduceEqDiff, Nat.reduceAdd, ↓reduceIte, get_pushB, get_putB, pickB_t, pickB_f, eqB_t, eqB_f, ltB_t, leB_t, AH.size_push, AH.size_put, AH.ro_push, AH.ro_put]
          refine ih2 _ _ _ ?_ ⟨k + 1, _, by omega, rfl, hEM.trans ((Fr.put M.size _ (by simp) _).ext (Ext.push M _) (Nat.le_refl _)), by rw [hbs]; simp only [Int.natCast_add]; rfl⟩
          omega
      · obtain rfl : k = l.length := by omega
        simp (disch := omega) only [go_sem, Nat.reduceEqDiff, Nat.reduceAdd, ↓reduceIte, get_pushB, get_putB, pickB_t, pickB_f, eqB_t, eqB_f, ltB_t, leB_t, AH.size_push, AH.size_put, AH.ro_push, AH.ro_put, amax2]
        refine ih _ _ _ ?_ ⟨i + 1, _, _, _, _, _, _, by omega, rfl, (hEK.trans hE1).trans hEM, by simp only [Int.natCast_add, bmost]; rfl⟩
        omega
    · obtain rfl : i = l.length := by omega
      simp (disch := omega) only [go_sem, Nat.reduceEqDiff, Nat.reduceAdd, ↓reduceIte, get_pushB, get_putB, pickB_t, pickB_f, eqB_t, eqB_f, ltB_t, leB_t, AH.size_push, AH.size_put, AH.ro_push, AH.ro_put]
      exact hEK
end Go.Proofs.A

/- Arena: Check. -/
set_option linter.unusedVariables false
set_option maxRecDepth 8000
set_option maxHeartbeats 4000000
set_option linter.unusedSimpArgs false
namespace Go.Proofs.A
open Go Go.Ab
def okAt (z : Int) : Bool := decide (0 ≤ z ∧ z ≤ 1228800)
theorem CheckBad_ok (H : AH) (z : Int) : Runs tb 29 [.int .i64 z] H (fun r H' => r = .bool (!(okAt z)) ∧ H' = H) := by
  refine Runs_fn (fn := Try.f29) [.tmp 2] [0, 2] [] 3000 (by kernel_rfl) rfl (by kernel_rfl) (by kernel_rfl) rfl ?_; simp only [pad, argAt]
  simp (disch := omega) only [go_sem, Nat.reduceEqDiff, Nat.reduceAdd, ↓reduceIte, get_pushB, get_putB, pickB_t, pickB_f, eqB_t, eqB_f, ltB_t, leB_t, AH.size_push, AH.size_put, AH.ro_push, AH.ro_put]
  refine SplitG.mk (fun h1 => ?_) (fun h1 => ?_)
  · simp (disch := omega) only [go_sem, Nat.reduceEqDiff, Nat.reduceAdd, ↓reduceIte, get_pushB, get_putB, pickB_t, pickB_f, eqB_t, eqB_f, ltB_t, leB_t, AH.size_push, AH.size_put, AH.ro_push, AH.ro_put]
    refine ⟨?_, trivial⟩
    congr 1; rw [Bool.eq_iff_iff]; simp [okAt]; omega
  · simp (disch := omega) only [go_sem, Nat.reduceEqDiff, Nat.reduceAdd, ↓reduceIte, get_pushB, get_putB, pickB_t, pickB_f, eqB_t, eqB_f, ltB_t, leB_t, AH.size_push, AH.size_put, AH.ro_push, AH.ro_put]
    refine ⟨?_, trivial⟩
    congr 1; rw [Bool.eq_iff_iff]; simp [okAt]; omega
def apartP (l : List Lf) (ps : List Int) : Bool := (List.range l.length).all (fun i => (List.range i).all (fun k => !(clashP l[i]! l[k]! ps[i]! ps[k]!)))
theorem agg3 (u v w : Value) : aggO (some [u, v, w]) 0 3 = some (.agg #[u, v, w]) := by rfl
theorem Check_ok (H : AH) (hr0 : H.ro ≤ H.size) (l : List Lf) (v : Value) (h : Lfs H v l) (ps : List Int) (vp : Value) (hp : Ints H vp ps) : Runs tb 22 [v, vp] H (fun r H' => r = .tuple #[.bool (mayL l && decide (ps.length = l.length) && ps.all okAt && apartP l ps), .int .i64 (if mayL l ∧ ps.length = l.length ∧ ps.all okAt then 0 else 1)] ∧ Ext H H') := by
  obtain ⟨a, c, rfl⟩ := h.inv
  obtain ⟨pa, pc, rfl⟩ := hp.inv
  refine Runs_fn (fn := Try.f22) [.tmp 4, .tmp 5] [0, 1, 4, 5, 6, 7, 8, 9, 10, 26, 27, 28, 35, 36, 37] [] 3000 (by kernel_rfl) rfl (by kernel_rfl) (by kernel_rfl) rfl ?_; simp only [pad, argAt]
  simp (disch := omega) only [go_sem, Nat.reduceEqDiff, Nat.reduceAdd, ↓reduceIte, get_pushB, get_putB, pickB_t, pickB_f, eqB_t, eqB_f, ltB_t, leB_t, AH.size_push, AH.size_put, AH.ro_push, AH.ro_put]
  refine callW_of (may_ok H hr0 l _ h) ?_
  rintro r G ⟨rfl, hE⟩
  have hrG : G.ro ≤ G.size := by have := hE.ro; have := hE.size; omega
  cases hm : mayL l
  · simp (disch := omega) only [go_sem, Nat.reduceEqDiff, Nat.reduceAdd, ↓reduceIte, get_pushB, get_putB, pickB_t, pickB_f, eqB_t, eqB_f, ltB_t, leB_t, AH.size_push, AH.size_put, AH.ro_push, AH.ro_put]
    exact ⟨by simp, hE⟩
  · have hlen := mayL_len hm
    have hpG := Ints.mono hE hp
    simp (disch := omega) only [go_sem, Nat.reduceEqDiff, Nat.reduceAdd, ↓reduceIte, get_pushB, get_putB, pickB_t, pickB_f, eqB_t, eqB_f, ltB_t, leB_t, AH.size_push, AH.size_put, AH.ro_push, AH.ro_put]
    refine SplitG.mk (fun g1 => ?_) (fun g1 => ?_)
    · simp (disch := omega) only [go_sem, Nat.reduceEqDiff, Nat.reduceAdd, ↓reduceIte, get_pushB, get_putB, pickB_t, pickB_f, eqB_t, eqB_f, ltB_t, leB_t, AH.size_push, AH.size_put, AH.ro_push, AH.ro_put]
      have : ¬ ps.length = l.length := by omega
      exact ⟨by simp [this], hE⟩
    · have hpl : ps.length = l.length := by omega
      simp (disch := omega) only [go_sem, Nat.reduceEqDiff, Nat.reduceAdd, ↓reduceIte, get_pushB, get_putB, pickB_t, pickB_f, eqB_t, eqB_f, ltB_t, leB_t, AH.size_push, AH.size_put, AH.ro_push, AH.ro_put]
      refine callW_of (ContainsFuncI_ok _ _ _ hpG _ #[] (fun i => !(okAt (gi ps i))) fun i hi => CheckBad_ok _ _) ?_
      rintro r H1 ⟨rfl, rfl⟩
      have hall : (∃ i, i < ps.length ∧ (!(okAt (gi ps i))) = true) ↔ ps.all okAt = false := all_any ps okAt _ (fun i hi => by rw [gi_eq hi])
      simp (disch := omega) only [go_sem, Nat.reduceEqDiff, Nat.reduceAdd, ↓reduceIte, get_pushB, get_putB, pickB_t, pickB_f, eqB_t, eqB_f, ltB_t, leB_t, AH.size_push, AH.size_put, AH.ro_push, AH.ro_put]
      refine Split.mk (fun g2 => ?_) (fun g2 => ?_)
      · simp (disch := omega) only [go_sem, Nat.reduceEqDiff, Nat.reduceAdd, ↓reduceIte, get_pushB, get_putB, pickB_t, pickB_f, eqB_t, eqB_f, ltB_t, leB_t, AH.size_push, AH.size_put, AH.ro_push, AH.ro_put]
        exact ⟨by simp [hall.1 g2], hE⟩
      · have hok : ps.all okAt = true := by rw [hall] at g2; simpa using g2
        have hpb : ∀ q, q < l.length → 0 ≤ ps[q]! ∧ ps[q]! ≤ 1228800 := fun q hq => by
          have hq' : q < ps.length := by omega
          rw [List.all_eq_true] at hok
          have := hok ps[q]! (by rw [List.getElem!_eq_getElem?_getD, List.getElem?_eq_getElem hq']; exact List.getElem_mem hq')
          exact of_decide_eq_true this
        rw [hok]
        simp (disch := omega) only [go_sem, Nat.reduceEqDiff, Nat.reduceAdd, ↓reduceIte, get_pushB, get_putB, pickB_t, pickB_f, eqB_t, eqB_f, ltB_t, leB_t, AH.size_push, AH.size_put, AH.ro_push, AH.ro_put]
        refine Sat_loop 3000 (fun k K V => ∃ (i : Nat) (x5 x6 x7 x8 s1 s2 s3 : Value), i ≤ l.length ∧ k = l.length - i ∧ Ext H K ∧ (∀ j, j < i → ∀ k, k < j → clashP l[j]! l[k]! ps[j]! ps[k]! = false) ∧ V = [.slice a l.length c, .slice pa ps.length pc, .bool false, .int .i64 0, .func (.func 29) #[] #[], x5, x6, x7, x8, .slice a l.length c, .int .i64 l.length, .int .i64 i, s1, s2, s3]) l.length ⟨0, _, _, _, _, _, _, _, by omega, rfl, hE, fun j hj => absurd hj (by omega), rfl⟩ ?_
        rintro k K V ⟨i, x5, x6, x7, x8, s1, s2, s3, hi, rfl, hEK, hcl, rfl⟩ ih
        have hrK : K.ro ≤ K.size := by have := hEK.ro; have := hEK.size; omega
        simp (disch := omega) only [go_sem, Nat.reduceEqDiff, Nat.reduceAdd, ↓reduceIte, get_pushB, get_putB, pickB_t, pickB_f, eqB_t, eqB_f, ltB_t, leB_t, AH.size_push, AH.size_put, AH.ro_push, AH.ro_put]
        refine Split.mk (fun h1 => ?_) (fun h1 => ?_)
        · have hlt : i < l.length := by omega
          have hK := h.ext hEK
          have y1 := ixL hK .i64 (i : Int) (by omega)
          have z1 := ldL hK (i : Int) (by omega)
          simp only [Int.toNat_natCast] at z1
          have o1 := okL_of hm hlt
          obtain ⟨x, hx⟩ : ∃ x, x = l[i]! := ⟨_, rfl⟩
          rw [← hx] at z1 o1
          obtain ⟨sa, sc, es, hs⟩ := Sl.sub hK ty22 rfl ty27 rfl none (some (.int .i64 (i : Int))) 0 i (by simp [abound]; omega) (by simp [abound])
          simp only [Nat.sub_zero, List.drop_zero] at es hs
          have hsl : (l.take i).length = i := by simp; omega
          simp (disch := omega) only [go_sem, Nat.reduceEqDiff, Nat.reduceAdd, ↓reduceIte, get_pushB, get_putB, pickB_t, pickB_f, eqB_t, eqB_f, ltB_t, leB_t, AH.size_push, AH.size_put, AH.ro_push, AH.ro_put, y1, z1, lfv, es]
          have hE1 : Ext K ((K.push [Value.int IntKind.i64 0, Value.int IntKind.i64 0, Value.int IntKind.i64 0]).put K.size (some [Value.int IntKind.i64 x.f, Value.int IntKind.i64 x.t, Value.int IntKind.i64 x.s])) := (Fr.put K.size _ (by simp) _).ext (Ext.push K _) (Nat.le_refl _)
          have hgx : ((K.push [Value.int IntKind.i64 0, Value.int IntKind.i64 0, Value.int IntKind.i64 0]).put K.size (some [Value.int IntKind.i64 x.f, Value.int IntKind.i64 x.t, Value.int IntKind.i64 x.s])).get K.size = some [Value.int IntKind.i64 x.f, Value.int IntKind.i64 x.t, Value.int IntKind.i64 x.s] := by rw [AH.get_put _ _ _ _ (by simp), if_pos rfl]
          generalize ((K.push [Value.int IntKind.i64 0, Value.int IntKind.i64 0, Value.int IntKind.i64 0]).put K.size (some [Value.int IntKind.i64 x.f, Value.int IntKind.i64 x.t, Value.int IntKind.i64 x.s])) = G2 at *
          have hs := Lfs.ext hs hE1
          refine Sat_loop 3000 (fun kk M V => ∃ (k : Nat) (x7 x8 : Value), k ≤ i ∧ kk = i - k ∧ Ext G2 M ∧ (∀ q, q < k → clashP l[i]! l[q]! ps[i]! ps[q]! = false) ∧ V = [.slice a l.length c, .slice pa ps.length pc, .bool false, .int .i64 0, .func (.func 29) #[] #[], .int .i64 i, .pointer (some ⟨K.size, 0, none⟩), x7, x8, .slice a l.length c, .int .i64 l.length, .int .i64 i, .slice sa i sc, .int .i64 i, .int .i64 k]) i ⟨0, _, _, by omega, rfl, Ext.refl _, fun q hq => absurd hq (by omega), rfl⟩ ?_
          rintro kk M V ⟨k, x7, x8, hk, rfl, hEM, hcq, rfl⟩ ih2
          have hrM : M.ro ≤ M.size := by have := hEM.ro; have := hEM.size; have := hE1.ro; have := hE1.size; omega
          simp (disch := omega) only [go_sem, Nat.reduceEqDiff, Nat.reduceAdd, ↓reduceIte, get_pushB, get_putB, pickB_t, pickB_f, eqB_t, eqB_f, ltB_t, leB_t, AH.size_push, AH.size_put, AH.ro_push, AH.ro_put]
          refine Split.mk (fun h2 => ?_) (fun h2 => ?_)
          · have hki : k < i := by omega
            have hsM := Lfs.ext hs hEM
            have hgM := hEM.get _ _ hgx
            have hKM : K.size < M.size := AH.lt_of_get hgM
            have y2 := ixL hsM .i64 (k : Int) (by omega)
            have z2 := ldL hsM (k : Int) (by omega)
            have etk : (l.take i)[k]! = l[k]! := by
              rw [List.getElem!_eq_getElem?_getD, List.getElem!_eq_getElem?_getD, List.getElem?_take, if_pos hki]
            simp only [Int.toNat_natCast] at z2
            rw [etk] at z2
            have hpM := (Ints.mono hEM (Ints.mono hE1 (Ints.mono hEK hp)))
            have hE2 : Ext M ((M.push [Value.int IntKind.i64 0, Value.int IntKind.i64 0, Value.int IntKind.i64 0]).put M.size (some [Value.int IntKind.i64 l[k]!.f, Value.int IntKind.i64 l[k]!.t, Value.int IntKind.i64 l[k]!.s])) := (Fr.put M.size _ (by simp) _).ext (Ext.push M _) (Nat.le_refl _)
            have hpN := Ints.mono hE2 hpM
            have y3 := ixI hpM .i64 (i : Int) (by omega)
            have z3 := ldI hpN (i : Int) (by omega)
            have y4 := ixI hpM .i64 (k : Int) (by omega)
            have z4 := ldI hpN (k : Int) (by omega)
            have gii : gi ps (i : Int) = ps[i]! := by rw [List.getElem!_eq_getElem?_getD]; simp [gi]
            have gik : gi ps (k : Int) = ps[k]! := by rw [List.getElem!_eq_getElem?_getD]; simp [gi]
            rw [gii] at z3
            rw [gik] at z4
            have q1 := hpb i hlt
            have q2 := hpb k (by omega)
            have q3 := okL_of hm (show k < l.length by omega)
            simp (disch := omega) only [go_sem, Nat.reduceEqDiff, Nat.reduceAdd, ↓reduceIte, get_pushB, get_putB, pickB_t, pickB_f, eqB_t, eqB_f, ltB_t, leB_t, AH.size_push, AH.size_put, AH.ro_push, AH.ro_put, y2, z2, lfv, hgM, agg3, y3, z3, y4, z4]
            refine callW_of (clash_ok _ (by have := hE2.ro; have := hE2.size; omega) x l[k]! ps[i]! ps[k]! (by omega)) ?_
            rintro r N ⟨rfl, hEN⟩
            cases hcp : clashP x l[k]! ps[i]! ps[k]!
            · simp (disch := omega) only [go_sem, Nat.reduceEqDiff, Nat.reduceAdd, ↓reduceIte, get_pushB, get_putB, pickB_t, pickB_f, eqB_t, eqB_f, ltB_t, leB_t, AH.size_push, AH.size_put, AH.ro_push, AH.ro_put]
              refine ih2 _ _ _ ?_ ⟨k + 1, _, _, by omega, rfl, (hEM.trans hE2).trans hEN, ?_, by simp only [Int.natCast_add]; rfl⟩
              · omega
              · intro q hq
                rcases Nat.lt_or_ge q k with h | h
                · exact hcq q h
                · obtain rfl : q = k := by omega
                  rw [← hx]; exact hcp
            · have hap : apartP l ps = false := by
                unfold apartP
                rw [List.all_eq_false]
                refine ⟨i, by simpa using hlt, ?_⟩
                rw [Bool.not_eq_true, List.all_eq_false]
                exact ⟨k, by simpa using hki, by rw [← hx, hcp]; simp⟩
              simp (disch := omega) only [go_sem, Nat.reduceEqDiff, Nat.reduceAdd, ↓reduceIte, get_pushB, get_putB, pickB_t, pickB_f, eqB_t, eqB_f, ltB_t, leB_t, AH.size_push, AH.size_put, AH.ro_push, AH.ro_put]
              exact ⟨by simp [hap, hpl], ((((hEK.trans hE1).trans hEM).trans hE2).trans hEN)⟩
          · obtain rfl : k = i := by omega
            simp (disch := omega) only [go_sem, Nat.reduceEqDiff, Nat.reduceAdd, ↓reduceIte, get_pushB, get_putB, pickB_t, pickB_f, eqB_t, eqB_f, ltB_t, leB_t, AH.size_push, AH.size_put, AH.ro_push, AH.ro_put]
            refine ih _ _ _ ?_ ⟨k + 1, _, _, _, _, _, _, _, by omega, rfl, (hEK.trans hE1).trans hEM, ?_, by simp only [Int.natCast_add]; rfl⟩
            · omega
            · intro j hj q hq
              rcases Nat.lt_or_ge j k with h | h
              · exact hcl j h q hq
              · obtain rfl : j = k := by omega
                exact hcq q hq
        · obtain rfl : i = l.length := by omega
          have hap : apartP l ps = true := by
            unfold apartP
            rw [List.all_eq_true]
            intro j hj
            rw [List.all_eq_true]
            intro q hq
            rw [hcl j (by simpa using hj) q (by simpa using hq)]; rfl
          simp (disch := omega) only [go_sem, Nat.reduceEqDiff, Nat.reduceAdd, ↓reduceIte, get_pushB, get_putB, pickB_t, pickB_f, eqB_t, eqB_f, ltB_t, leB_t, AH.size_push, AH.size_put, AH.ro_push, AH.ro_put]
          exact ⟨by simp [hap, hpl], hEK⟩
end Go.Proofs.A

/- Arena: sorted one way only. -/
set_option linter.unusedVariables false
set_option maxRecDepth 8000
set_option maxHeartbeats 4000000
set_option linter.unusedSimpArgs false
namespace Go.Proofs.A
open Go Go.Ab
def insS (x : Sp) : List Sp → List Sp
  | [] => [x]
  | y :: ys => if x.1 < y.1 then x :: y :: ys else y :: insS x ys
def isort : List Sp → List Sp
  | [] => []
  | x :: xs => insS x (isort xs)
theorem insS_perm (x : Sp) (l : List Sp) : (insS x l).Perm (x :: l) := by
  induction l with
  | nil => exact List.Perm.refl _
  | cons y ys ih =>
    unfold insS
    split
    · exact List.Perm.refl _
    · exact (ih.cons y).trans (List.Perm.swap _ _ _)
theorem isort_perm (l : List Sp) : (isort l).Perm l := by
  induction l with
  | nil => exact List.Perm.refl _
  | cons x xs ih => exact (insS_perm x _).trans (ih.cons x)
abbrev Asc (l : List Sp) : Prop := l.Pairwise fun x y => x.1 ≤ y.1
theorem insS_asc (x : Sp) (l : List Sp) (h : Asc l) : Asc (insS x l) := by
  induction l with
  | nil => simp [insS]
  | cons y ys ih =>
    have h := List.pairwise_cons.1 h
    unfold insS
    split
    · rename_i hlt
      refine List.pairwise_cons.2 ⟨fun z hz => ?_, List.pairwise_cons.2 h⟩
      rcases List.mem_cons.1 hz with rfl | hz
      · omega
      · have := h.1 z hz; omega
    · rename_i hlt
      refine List.pairwise_cons.2 ⟨fun z hz => ?_, ih h.2⟩
      rcases List.mem_cons.1 ((insS_perm x ys).mem_iff.1 hz) with rfl | hz
      · omega
      · exact h.1 z hz
theorem isort_asc (l : List Sp) : Asc (isort l) := by
  induction l with
  | nil => exact List.Pairwise.nil
  | cons x xs ih => exact insS_asc x _ ih
theorem sortL_asc (l : List Sp) : Asc (sortL l) := by
  have h := (sort_spec l.toArray).2
  have hp := (sort_spec l.toArray).1.1
  unfold sortL
  rw [Asc, List.pairwise_iff_getElem]
  intro i j hi hj hij
  have := h i j (by omega) hij (by simp at hp hj ⊢; omega)
  simp only [Array.length_toList] at hi hj
  rw [bang hi, bang hj] at this
  simp only [ltS, decide_eq_false_iff_not] at this
  simp only [Array.getElem_toList]
  omega
/-- No two begin alike. -/
abbrev Keys (l : List Sp) : Prop := l.Pairwise fun x y => x.1 ≠ y.1
theorem asc_unique : ∀ (l m : List Sp), l.Perm m → Asc l → Asc m → Keys l → l = m
  | [], m, hp, _, _, _ => hp.nil_eq.symm ▸ rfl
  | x :: xs, m, hp, ha, hb, hk => by
    cases m with
    | nil => exact absurd hp.length_eq (by simp)
    | cons y ys =>
      have ha := List.pairwise_cons.1 ha
      have hb := List.pairwise_cons.1 hb
      have hk := List.pairwise_cons.1 hk
      have hxy : x = y := by
        rcases List.mem_cons.1 (hp.mem_iff.1 (List.mem_cons_self)) with h | h
        · exact h
        · rcases List.mem_cons.1 (hp.symm.mem_iff.1 (List.mem_cons_self (a := y))) with h' | h'
          · exact h'.symm
          · have h1 := ha.1 y h'
            have h2 := hb.1 x h
            exact absurd (by omega) (hk.1 y h')
      subst hxy
      rw [asc_unique xs ys (List.Perm.cons_inv hp) ha.2 hb.2 hk.2]
theorem Keys.perm {l m : List Sp} (h : Keys l) (hp : l.Perm m) : Keys m := hp.pairwise h (fun hxy => Ne.symm hxy)
theorem sortL_eq (l m : List Sp) (hp : m.Perm l) (ha : Asc m) (hk : Keys l) : sortL l = m :=
  asc_unique _ _ ((sortL_perm l).trans hp.symm) (sortL_asc l) ha (hk.perm (sortL_perm l).symm)
theorem sortL_isort (l : List Sp) (hk : Keys l) : sortL l = isort l := sortL_eq l _ (isort_perm l) (isort_asc l) hk
end Go.Proofs.A

/- Arena: what is placed lies apart. -/
set_option linter.unusedVariables false
set_option maxRecDepth 8000
set_option maxHeartbeats 4000000
set_option linter.unusedSimpArgs false
namespace Go.Proofs.A
open Go Go.Ab
/-- Spans one behind the other. -/
abbrev Row (l : List Sp) : Prop := l.Pairwise fun x y => x.2 ≤ y.1
/-- The fold's state over a row: the last end is not below any; the best gap, where there is one, misses all. -/
theorem gapL_fit (size : Int) (hs : 0 ≤ size) : ∀ (l p : List Sp) (st : Int × Int × Int), Row (p ++ l) → (∀ x ∈ p ++ l, 0 ≤ x.1 ∧ x.1 ≤ x.2) →
    (0 ≤ st.1 ∧ (∀ x ∈ p, x.2 ≤ st.1) ∧ (∀ x ∈ l, st.1 ≤ x.1) ∧ (st.2.1 < 0 ∨ (st.2.1 ≤ st.1 ∧ st.2.1 + size ≤ st.2.1 + st.2.2 ∧ ∀ x ∈ p ++ l, x.2 ≤ st.2.1 ∨ st.2.1 + st.2.2 ≤ x.1))) →
    0 ≤ (l.foldl (gapS size) st).1 ∧ (∀ x ∈ p ++ l, x.2 ≤ (l.foldl (gapS size) st).1) ∧ ((l.foldl (gapS size) st).2.1 < 0 ∨ ((l.foldl (gapS size) st).2.1 + size ≤ (l.foldl (gapS size) st).2.1 + (l.foldl (gapS size) st).2.2 ∧ ∀ x ∈ p ++ l, x.2 ≤ (l.foldl (gapS size) st).2.1 ∨ (l.foldl (gapS size) st).2.1 + (l.foldl (gapS size) st).2.2 ≤ x.1)) := by
  intro l
  induction l with
  | nil =>
    intro p st hr hp h
    obtain ⟨h1, h2, h3, h4⟩ := h
    simp only [List.foldl_nil, List.append_nil] at *
    refine ⟨h1, h2, ?_⟩
    rcases h4 with h4 | ⟨h4, h5, h6⟩
    · exact .inl h4
    · exact .inr ⟨h5, h6⟩
  | cons y ys ih =>
    intro p st hr hp h
    obtain ⟨h1, h2, h3, h4⟩ := h
    have e : p ++ y :: ys = (p ++ [y]) ++ ys := by simp
    rw [List.foldl_cons, e]
    have hy := hp y (by simp)
    have hy3 := h3 y (by simp)
    obtain ⟨r1, r2, r3⟩ := List.pairwise_append.1 hr
    have r2 := List.pairwise_cons.1 r2
    refine ih (p ++ [y]) _ (e ▸ hr) (e ▸ hp) ?_
    have k1 : ∀ x ∈ p ++ [y], x.2 ≤ y.2 := fun x hx => by
      rcases List.mem_append.1 hx with hx | hx
      · have := r3 x hx y (by simp); omega
      · rw [List.mem_singleton.1 hx]; exact Int.le_refl _
    unfold gapS
    split
    · rename_i hc
      refine ⟨by simp only []; omega, k1, fun x hx => r2.1 x hx, .inr ⟨by simp only []; omega, by simp only []; omega, fun x hx => ?_⟩⟩
      rw [← e] at hx
      simp only []
      rcases List.mem_append.1 hx with hx | hx
      · exact .inl (h2 x hx)
      · rcases List.mem_cons.1 hx with rfl | hx
        · right; omega
        · right; have := r2.1 x hx; omega
    · refine ⟨by simp only []; omega, k1, fun x hx => r2.1 x hx, ?_⟩
      rcases h4 with h4 | ⟨h4, h5, h6⟩
      · exact .inl h4
      · exact .inr ⟨by simp only []; omega, h5, fun x hx => h6 x (by rw [e]; exact hx)⟩
/-- What takes the best gap misses all. -/
theorem gapF_fit (size : Int) (hs : 0 ≤ size) (l : List Sp) (hr : Row l) (hp : ∀ x ∈ l, 0 ≤ x.1 ∧ x.1 ≤ x.2) : 0 ≤ gapF size l ∧ ∀ x ∈ l, x.2 ≤ gapF size l ∨ gapF size l + size ≤ x.1 := by
  obtain ⟨h1, h2, h3⟩ := gapL_fit size hs l [] (0, -1, 0) hr hp ⟨by simp, by simp, fun x hx => (hp x hx).1, .inl (by simp)⟩
  simp only [List.nil_append] at h2 h3
  unfold gapF gapL
  split
  · exact ⟨h1, fun x hx => .inl (h2 x hx)⟩
  · rename_i hn
    rcases h3 with h3 | ⟨h3, h4⟩
    · exact absurd h3 hn
    · refine ⟨by omega, fun x hx => ?_⟩
      rcases h4 x hx with h | h
      · exact .inl h
      · right; omega
end Go.Proofs.A

/- Arena: the places, apart. -/
set_option linter.unusedVariables false
set_option maxRecDepth 8000
set_option maxHeartbeats 4000000
set_option linter.unusedSimpArgs false
namespace Go.Proofs.A
open Go Go.Ab
abbrev Dj (l : List Sp) : Prop := l.Pairwise fun x y => x.2 ≤ y.1 ∨ y.2 ≤ x.1
theorem row_of {l : List Sp} (ha : Asc l) (hd : Dj l) (hp : ∀ x ∈ l, x.1 < x.2) : Row l := by
  rw [Row, List.pairwise_iff_getElem]
  intro i j hi hj hij
  have h1 := List.pairwise_iff_getElem.1 ha i j hi hj hij
  have h2 := List.pairwise_iff_getElem.1 hd i j hi hj hij
  have h3 := hp l[j] (List.getElem_mem hj)
  omega
theorem keys_of {l : List Sp} (hd : Dj l) (hp : ∀ x ∈ l, x.1 < x.2) : Keys l := by
  rw [Keys, List.pairwise_iff_getElem]
  intro i j hi hj hij
  have h2 := List.pairwise_iff_getElem.1 hd i j hi hj hij
  have h3 := hp l[j] (List.getElem_mem hj)
  have h4 := hp l[i] (List.getElem_mem hi)
  omega
theorem row_sort {l : List Sp} (hd : Dj l) (hp : ∀ x ∈ l, x.1 < x.2) : Row (sortL l) :=
  row_of (sortL_asc l) ((sortL_perm l).symm.pairwise hd (fun h => h.symm)) (fun x hx => hp x ((sortL_perm l).mem_iff.1 hx))
theorem order_of {l : List Lf} (hm : mayL l = true) : ∀ (d j k : Nat), k = j + d → k < l.length → l[j]!.f ≤ l[k]!.f := by
  intro d
  induction d with
  | zero => intro j k h _; subst h; exact Int.le_refl _
  | succ d ih =>
    intro j k h hk
    have h1 := ih j (j + d) rfl (by omega)
    have h2 := (okL_of hm hk).2.2.2.2.2 (by omega)
    rw [show k - 1 = j + d by omega] at h2
    omega
/-- Two lives, where they are there at once, lie apart. -/
def Ap (l : List Lf) (ps : List Int) (j k : Nat) : Prop := l[j]!.f < l[k]!.t → l[k]!.f < l[j]!.t → ps[j]! + l[j]!.s ≤ ps[k]! ∨ ps[k]! + l[k]!.s ≤ ps[j]!
theorem bang_app (ps : List Int) (x : Int) (k : Nat) (h : k < ps.length) : (ps ++ [x])[k]! = ps[k]! := by
  rw [List.getElem!_eq_getElem?_getD, List.getElem!_eq_getElem?_getD, List.getElem?_append_left h]
theorem bang_last (ps : List Int) (x : Int) (k : Nat) (h : k = ps.length) : (ps ++ [x])[k]! = x := by
  subst h
  rw [List.getElem!_eq_getElem?_getD, List.getElem?_append_right (Nat.le_refl _)]; simp
theorem there_mem {l : List Lf} {ps : List Int} {i k : Nat} {y : Sp} (h : y ∈ thereP l ps i k) : ∃ q, q < k ∧ l[i]!.f < l[q]!.t ∧ y = (ps[q]!, ps[q]! + l[q]!.s) := by
  unfold thereP at h
  rw [List.mem_map] at h
  obtain ⟨q, hq, rfl⟩ := h
  rw [List.mem_filter, List.mem_range] at hq
  exact ⟨q, hq.1, of_decide_eq_true hq.2, rfl⟩
theorem there_dj {l : List Lf} (hm : mayL l = true) (ps : List Int) (i : Nat) (hi : i < l.length) (hap : ∀ j, j < i → ∀ k, k < j → Ap l ps j k) (n : Nat) (hn : n ≤ i) : Dj (thereP l ps i n) := by
  unfold thereP Dj
  rw [List.pairwise_map]
  refine ((List.pairwise_lt_range (n := n)).filter _ |>.imp_of_mem ?_)
  intro k j hk hj hkj
  rw [List.mem_filter, List.mem_range] at hk hj
  have h1 := of_decide_eq_true hk.2
  have h2 := of_decide_eq_true hj.2
  have o1 := order_of hm (i - j) j i (by omega) hi
  have o2 := order_of hm (i - k) k i (by omega) hi
  have := hap j (by omega) k hkj (by omega) (by omega)
  simp only []
  omega
theorem place_step {l : List Lf} (hm : mayL l = true) (i : Nat) (hi : i < l.length) (hap : ∀ j, j < i → ∀ k, k < j → Ap l (placeL l i) j k) :
    Dj (thereP l (placeL l i) i i) ∧ (∀ x ∈ thereP l (placeL l i) i i, 0 ≤ x.1 ∧ x.1 < x.2) := by
  refine ⟨there_dj hm _ i hi hap i (Nat.le_refl _), fun x hx => ?_⟩
  obtain ⟨q, hq, -, rfl⟩ := there_mem hx
  have h1 := placeL_bd l i (fun q hq => by have := okL_of hm (show q < l.length by omega); omega) (placeL l i)[q]! (by rw [List.getElem!_eq_getElem?_getD, List.getElem?_eq_getElem (by rw [placeL_len]; omega)]; exact List.getElem_mem _)
  have h2 := okL_of hm (show q < l.length by omega)
  simp only []
  omega
theorem placeL_apart {l : List Lf} (hm : mayL l = true) : ∀ (i : Nat), i ≤ l.length → ∀ j, j < i → ∀ k, k < j → Ap l (placeL l i) j k := by
  intro i
  induction i with
  | zero => intro _ j hj; omega
  | succ i ih =>
    intro hi j hj k hk
    have ih := ih (by omega)
    obtain ⟨hd, hp⟩ := place_step hm i (by omega) ih
    have hlen := placeL_len l i
    rw [placeL]
    intro t1 t2
    rcases Nat.lt_or_ge j i with h | h
    · rw [bang_app _ _ _ (by omega), bang_app _ _ _ (by omega)]
      exact ih j h k hk t1 t2
    · obtain rfl : j = i := by omega
      rw [bang_last _ _ _ hlen.symm, bang_app _ _ _ (by omega)]
      have hm' : ((placeL l j)[k]!, (placeL l j)[k]! + l[k]!.s) ∈ thereP l (placeL l j) j j := by
        unfold thereP
        rw [List.mem_map]
        exact ⟨k, by rw [List.mem_filter, List.mem_range]; exact ⟨hk, decide_eq_true t1⟩, rfl⟩
      have hs := okL_of hm (show j < l.length by omega)
      obtain ⟨-, h2⟩ := gapF_fit l[j]!.s (by omega) _ (row_sort hd (fun x hx => (hp x hx).2)) (fun x hx => by
        have := hp x ((sortL_perm _).mem_iff.1 hx); omega)
      have := h2 _ ((sortL_perm _).mem_iff.2 hm')
      exact this.symm.imp id id
end Go.Proofs.A

/- Arena: the places' plain laws. -/
set_option linter.unusedVariables false
set_option maxRecDepth 8000
set_option maxHeartbeats 4000000
set_option linter.unusedSimpArgs false
namespace Go.Proofs.A
open Go Go.Ab
/-! ### By insertion, which evaluates -/
def placeJ (l : List Lf) : Nat → List Int
  | 0 => []
  | i + 1 => placeJ l i ++ [gapF l[i]!.s (isort (thereP l (placeJ l i) i i))]
theorem placeJ_eq {l : List Lf} (hm : mayL l = true) : ∀ i, i ≤ l.length → placeL l i = placeJ l i := by
  intro i
  induction i with
  | zero => intro _; rfl
  | succ i ih =>
    intro hi
    obtain ⟨hd, hp⟩ := place_step hm i (by omega) (placeL_apart hm i (by omega))
    rw [placeL, placeJ, ← ih (by omega)]
    congr 2
    rw [← sortL_isort _ (keys_of hd (fun x hx => (hp x hx).2))]
    rfl
/-! ### Sums -/
def sumS (l : List Lf) : Nat → Int
  | 0 => 0
  | i + 1 => sumS l i + l[i]!.s
theorem sumS_mono (l : List Lf) (n : Nat) (hs : ∀ k, k < n → 0 ≤ l[k]!.s) : ∀ d i, i + d ≤ n → sumS l i ≤ sumS l (i + d) := by
  intro d
  induction d with
  | zero => intro i _; exact Int.le_refl _
  | succ d ih =>
    intro i h
    have h1 := ih i (by omega)
    have h2 := hs (i + d) (by omega)
    rw [show i + (d + 1) = (i + d) + 1 by omega, sumS]
    omega
theorem sumS_le (l : List Lf) (n : Nat) (hs : ∀ k, k < n → 0 ≤ l[k]!.s) (i j : Nat) (h : i ≤ j) (hj : j ≤ n) : sumS l i ≤ sumS l j := by
  have := sumS_mono l n hs (j - i) i (by omega)
  rwa [show i + (j - i) = j by omega] at this
theorem placeL_sum {l : List Lf} (hm : mayL l = true) : ∀ i, i ≤ l.length → ∀ q, q < i → (placeL l i)[q]! ≤ sumS l q := by
  have hs : ∀ k, k < l.length → 0 ≤ l[k]!.s := fun k hk => by have := okL_of hm hk; omega
  intro i
  induction i with
  | zero => intro _ q h; omega
  | succ i ih =>
    intro hi q hq
    have ih := ih (by omega)
    have hlen := placeL_len l i
    rw [placeL]
    rcases Nat.lt_or_ge q i with h | h
    · rw [bang_app _ _ _ (by omega)]; exact ih q h
    · obtain rfl : q = i := by omega
      rw [bang_last _ _ _ hlen.symm]
      have h0 := sumS_le l l.length hs 0 q (by omega) (by omega)
      rcases gapF_mem l[q]!.s (sortL (thereL l (placeL l q) q)) with e | ⟨x, hx, e⟩
      · rw [e]; exact h0
      · rw [e]
        obtain ⟨k, hk, -, rfl⟩ := there_mem (i := q) (k := q) ((sortL_perm _).mem_iff.1 hx)
        have h1 := ih k hk
        have h2 := sumS_le l l.length hs (k + 1) q (by omega) (by omega)
        rw [sumS] at h2
        simp only []
        omega
/-! ### The height -/
theorem hgt_ge (l : List Lf) (ps : List Int) (i q : Nat) (hq : q < i) : ps[q]! + l[q]!.s ≤ hgt l ps i := by
  induction i with
  | zero => omega
  | succ i ih =>
    simp only [hgt]
    rcases Nat.lt_or_ge q i with h | h
    · have := ih h; omega
    · obtain rfl : q = i := by omega
      omega
theorem hgt_nn (l : List Lf) (ps : List Int) (i : Nat) : 0 ≤ hgt l ps i := by
  induction i with
  | zero => exact Int.le_refl _
  | succ i ih => simp only [hgt]; omega
theorem hgt_le (l : List Lf) (ps : List Int) (B : Int) (hB : 0 ≤ B) (i : Nat) (h : ∀ q, q < i → ps[q]! + l[q]!.s ≤ B) : hgt l ps i ≤ B := by
  induction i with
  | zero => exact hB
  | succ i ih =>
    have := ih (fun q hq => h q (by omega))
    have := h i (by omega)
    simp only [hgt]; omega
theorem hgt_all {l : List Lf} (hm : mayL l = true) : hgt l (placeL l l.length) l.length ≤ sumS l l.length := by
  have hs : ∀ k, k < l.length → 0 ≤ l[k]!.s := fun k hk => by have := okL_of hm hk; omega
  refine hgt_le _ _ _ (sumS_le l l.length hs 0 _ (by omega) (Nat.le_refl _)) _ fun q hq => ?_
  have h1 := placeL_sum hm l.length (Nat.le_refl _) q hq
  have h2 := sumS_le l l.length hs (q + 1) l.length (by omega) (Nat.le_refl _)
  rw [sumS] at h2
  omega
/-! ### What is there at once -/
def lenS : List Sp → Int
  | [] => 0
  | x :: xs => (x.2 - x.1) + lenS xs
theorem lenS_perm {l m : List Sp} (h : l.Perm m) : lenS l = lenS m := by
  induction h with
  | nil => rfl
  | cons x _ ih => simp only [lenS]; omega
  | swap x y l => simp only [lenS]; omega
  | trans _ _ h1 h2 => omega
theorem lenS_app (l m : List Sp) : lenS (l ++ m) = lenS l + lenS m := by
  induction l with
  | nil => simp [lenS]
  | cons x xs ih => simp only [List.cons_append, lenS]; omega
theorem lenS_row (h : Int) : ∀ (l : List Sp) (e : Int), Row l → (∀ x ∈ l, e ≤ x.1 ∧ x.1 ≤ x.2 ∧ x.2 ≤ h) → e ≤ h → lenS l ≤ h - e
  | [], e, _, _, he => by simp only [lenS]; omega
  | x :: xs, e, hr, hb, he => by
    have hr := List.pairwise_cons.1 hr
    have hx := hb x (by simp)
    have := lenS_row h xs x.2 hr.2 (fun y hy => ⟨hr.1 y hy, (hb y (by simp [hy])).2⟩) hx.2.2
    simp only [lenS]
    omega
def aliveP (l : List Lf) (ps : List Int) (i k : Nat) : List Sp := ((List.range k).filter (fun q => decide (l[q]!.f ≤ l[i]!.f ∧ l[i]!.f < l[q]!.t))).map (fun q => (ps[q]!, ps[q]! + l[q]!.s))
theorem aliveP_len (l : List Lf) (ps : List Int) (i k : Nat) : lenS (aliveP l ps i k) = bsum l i k := by
  induction k with
  | zero => rfl
  | succ k ih =>
    unfold aliveP at ih ⊢
    rw [List.range_succ, List.filter_append, List.map_append, lenS_app, ih, bsum]
    by_cases h : l[k]!.f ≤ l[i]!.f ∧ l[i]!.f < l[k]!.t
    · rw [List.filter_cons_of_pos (by simpa using h), if_pos h]
      simp [lenS]; omega
    · rw [List.filter_cons_of_neg (by simpa using h), if_neg h]
      simp [lenS]
theorem bsum_le {l : List Lf} (hm : mayL l = true) (i : Nat) : bsum l i l.length ≤ hgt l (placeL l l.length) l.length := by
  have hap := placeL_apart hm l.length (Nat.le_refl _)
  rw [← aliveP_len l (placeL l l.length)]
  have hmem : ∀ x ∈ aliveP l (placeL l l.length) i l.length, 0 ≤ x.1 ∧ x.1 < x.2 ∧ x.2 ≤ hgt l (placeL l l.length) l.length := by
    intro x hx
    unfold aliveP at hx
    rw [List.mem_map] at hx
    obtain ⟨q, hq, rfl⟩ := hx
    rw [List.mem_filter, List.mem_range] at hq
    have h1 := place_at l hm q hq.1
    have h2 := okL_of hm hq.1
    have h3 := hgt_ge l (placeL l l.length) l.length q hq.1
    simp only []
    omega
  have hdj : Dj (aliveP l (placeL l l.length) i l.length) := by
    unfold aliveP Dj
    rw [List.pairwise_map]
    refine ((List.pairwise_lt_range (n := l.length)).filter _ |>.imp_of_mem ?_)
    intro k j hk hj hkj
    rw [List.mem_filter, List.mem_range] at hk hj
    have h1 := of_decide_eq_true hk.2
    have h2 := of_decide_eq_true hj.2
    have := hap j hj.1 k hkj (by omega) (by omega)
    simp only []
    omega
  have hr := row_sort hdj (fun x hx => (hmem x hx).2.1)
  rw [← lenS_perm (sortL_perm (aliveP l (placeL l l.length) i l.length))]
  have := lenS_row (hgt l (placeL l l.length) l.length) _ 0 hr (fun x hx => by
    have := hmem x ((sortL_perm _).mem_iff.1 hx); omega) (hgt_nn _ _ _)
  omega
theorem bmost_le {l : List Lf} (hm : mayL l = true) (i : Nat) : bmost l i ≤ hgt l (placeL l l.length) l.length := by
  induction i with
  | zero => exact hgt_nn _ _ _
  | succ i ih =>
    have := bsum_le hm i
    simp only [bmost]
    omega
/-! ### Check of what is placed -/
theorem apart_placed {l : List Lf} (hm : mayL l = true) : apartP l (placeL l l.length) = true ∧ (placeL l l.length).all okAt = true := by
  constructor
  · unfold apartP
    rw [List.all_eq_true]
    intro i hi
    rw [List.all_eq_true]
    intro k hk
    rw [List.mem_range] at hi hk
    have h := placeL_apart hm l.length (Nat.le_refl _) i hi k hk
    unfold Ap at h
    unfold clashP
    rw [Bool.not_eq_true', decide_eq_false_iff_not]
    omega
  · rw [List.all_eq_true]
    intro x hx
    have := placeL_bd l l.length (fun k hk => by have := okL_of hm hk; omega) x hx
    have := mayL_len hm
    unfold okAt
    exact decide_eq_true (by omega)
/-! ### The first ones -/
theorem take_bang (l : List Lf) (n k : Nat) (h : k < n) : (l.take n)[k]! = l[k]! := by
  rw [List.getElem!_eq_getElem?_getD, List.getElem!_eq_getElem?_getD, List.getElem?_take, if_pos h]
theorem thereP_take (l : List Lf) (ps : List Int) (n i : Nat) (hi : i < n) : ∀ k, k ≤ i → thereP (l.take n) ps i k = thereP l ps i k := by
  intro k
  induction k with
  | zero => intro _; rfl
  | succ k ih =>
    intro hk
    have e1 := take_bang l n i hi
    have e2 := take_bang l n k (by omega)
    by_cases h : l[i]!.f < l[k]!.t
    · rw [thereP_yes _ _ _ _ (by rw [e1, e2]; exact h), thereP_yes _ _ _ _ h, ih (by omega), e2]
    · rw [thereP_no _ _ _ _ (by rw [e1, e2]; exact h), thereP_no _ _ _ _ h, ih (by omega)]
theorem placeL_take (l : List Lf) (n : Nat) : ∀ i, i ≤ n → placeL (l.take n) i = placeL l i := by
  intro i
  induction i with
  | zero => intro _; rfl
  | succ i ih =>
    intro hi
    rw [placeL, placeL, ih (by omega), take_bang l n i (by omega)]
    have : thereL (l.take n) (placeL l i) i = thereL l (placeL l i) i := thereP_take l _ n i (by omega) i (Nat.le_refl _)
    rw [this]
theorem placeL_pre (l : List Lf) (n : Nat) : ∀ d, placeL l n = (placeL l (n + d)).take n := by
  intro d
  induction d with
  | zero => rw [Nat.add_zero, List.take_of_length_le (by rw [placeL_len]; omega)]
  | succ d ih =>
    rw [show n + (d + 1) = (n + d) + 1 by omega, placeL, List.take_append_of_le_length (by rw [placeL_len]; omega)]
    exact ih
theorem mayL_take {l : List Lf} (hm : mayL l = true) (n : Nat) (hn : n ≤ l.length) : mayL (l.take n) = true := by
  have hl := mayL_len hm
  refine mayL_good _ (by simp; omega) fun i hi => ?_
  have hi' : i < n := by simp at hi; omega
  have := okL_of hm (show i < l.length by omega)
  unfold okL
  rw [take_bang l n i hi', take_bang l n (i - 1) (by omega)]
  exact decide_eq_true this
theorem hgt_take {l : List Lf} (hm : mayL l = true) (n : Nat) (hn : n ≤ l.length) : hgt (l.take n) (placeL (l.take n) n) n ≤ hgt l (placeL l l.length) l.length := by
  refine hgt_le _ _ _ (hgt_nn _ _ _) _ fun q hq => ?_
  rw [placeL_take l n n (Nat.le_refl _), take_bang l n q hq, placeL_pre l n (l.length - n), show n + (l.length - n) = l.length by omega]
  have : ((placeL l l.length).take n)[q]! = (placeL l l.length)[q]! := by
    rw [List.getElem!_eq_getElem?_getD, List.getElem!_eq_getElem?_getD, List.getElem?_take, if_pos hq]
  rw [this]
  exact hgt_ge _ _ _ _ (by omega)
end Go.Proofs.A

/- Arena: rows of lives, plainly. -/
set_option linter.unusedVariables false
set_option maxRecDepth 8000
set_option maxHeartbeats 4000000
set_option linter.unusedSimpArgs false
namespace Go.Proofs.A
open Go Go.Ab
def sizeR (p : Nat) (i : Nat) : Int := 1 + (((i : Int) * 7 + p) % 9)
def rowL (p n : Nat) : List Lf := (List.range n).map fun (i : Nat) => ⟨(i : Int), (i : Int) + 1, sizeR p i⟩
def besL (p m n : Nat) : List Lf := (List.range n).map fun (i : Nat) => ⟨(i : Int), (m : Int) + 1, sizeR p i⟩
theorem sizeR_bd (p i : Nat) : 1 ≤ sizeR p i ∧ sizeR p i ≤ 9 := by unfold sizeR; omega
theorem rowL_at (p n i : Nat) (h : i < n) : (rowL p n)[i]! = ⟨(i : Int), (i : Int) + 1, sizeR p i⟩ := by
  rw [List.getElem!_eq_getElem?_getD]; simp [rowL, h]
theorem besL_at (p m n i : Nat) (h : i < n) : (besL p m n)[i]! = ⟨(i : Int), (m : Int) + 1, sizeR p i⟩ := by
  rw [List.getElem!_eq_getElem?_getD]; simp [besL, h]
theorem rowL_len (p n : Nat) : (rowL p n).length = n := by simp [rowL]
theorem besL_len (p m n : Nat) : (besL p m n).length = n := by simp [besL]
theorem rowL_succ (p n : Nat) : rowL p (n + 1) = rowL p n ++ [⟨(n : Int), (n : Int) + 1, sizeR p n⟩] := by
  unfold rowL; rw [List.range_succ, List.map_append]; rfl
theorem besL_succ (p m n : Nat) : besL p m (n + 1) = besL p m n ++ [⟨(n : Int), (m : Int) + 1, sizeR p n⟩] := by
  unfold besL; rw [List.range_succ, List.map_append]; rfl
theorem rowL_may (p n : Nat) (hn : n ≤ 40) : mayL (rowL p n) = true := by
  refine mayL_good _ (by rw [rowL_len]; omega) fun i hi => ?_
  rw [rowL_len] at hi
  have := sizeR_bd p i
  unfold okL
  rw [rowL_at p n i hi, rowL_at p n (i - 1) (by omega)]
  exact decide_eq_true (by simp only []; omega)
theorem besL_may (p m n : Nat) (hn : n ≤ 40) (hm : n ≤ m ∧ m ≤ 40) : mayL (besL p m n) = true := by
  refine mayL_good _ (by rw [besL_len]; omega) fun i hi => ?_
  rw [besL_len] at hi
  have := sizeR_bd p i
  unfold okL
  rw [besL_at p m n i hi, besL_at p m n (i - 1) (by omega)]
  exact decide_eq_true (by simp only []; omega)
theorem sortL_nil : sortL [] = [] := (sortL_perm []).eq_nil
theorem rowL_place (p n : Nat) : ∀ i, i ≤ n → ∀ k, k < i → (placeL (rowL p n) i)[k]! = 0 := by
  intro i
  induction i with
  | zero => intro _ k hk; omega
  | succ i ih =>
    intro hi k hk
    have hlen := placeL_len (rowL p n) i
    have ht : thereL (rowL p n) (placeL (rowL p n) i) i = [] := by
      unfold thereL
      rw [List.map_eq_nil_iff, List.filter_eq_nil_iff]
      intro k hk
      rw [List.mem_range] at hk
      rw [rowL_at p n i (by omega), rowL_at p n k (by omega)]
      simp only [decide_eq_true_eq]
      omega
    rw [placeL, ht, sortL_nil]
    rcases Nat.lt_or_ge k i with h | h
    · rw [bang_app _ _ _ (by omega)]; exact ih (by omega) k h
    · obtain rfl : k = i := by omega
      rw [bang_last _ _ _ hlen.symm]
      rfl
theorem besL_place (p m n : Nat) (hm : n ≤ m) : ∀ i, i ≤ n → placeL (besL p m n) i = (List.range i).map (sumS (besL p m n)) := by
  intro i
  induction i with
  | zero => intro _; rfl
  | succ i ih =>
    intro hi
    have ih := ih (by omega)
    have hs : ∀ k, k < n → 1 ≤ (besL p m n)[k]!.s := fun k hk => by rw [besL_at p m n k hk]; exact (sizeR_bd p k).1
    have ht : thereL (besL p m n) (placeL (besL p m n) i) i = (List.range i).map (fun k => (sumS (besL p m n) k, sumS (besL p m n) (k + 1))) := by
      unfold thereL
      rw [List.filter_eq_self.2]
      · apply List.map_congr_left
        intro k hk
        rw [List.mem_range] at hk
        have : (placeL (besL p m n) i)[k]! = sumS (besL p m n) k := by
          rw [ih, List.getElem!_eq_getElem?_getD]; simp [hk]
        rw [this]
        rfl
      · intro k hk
        rw [List.mem_range] at hk
        rw [besL_at p m n i (by omega), besL_at p m n k (by omega)]
        simp only [decide_eq_true_eq]
        omega
    generalize besL p m n = l at *
    have hss : ∀ k, k < n → 0 ≤ l[k]!.s := fun k hk => by have := hs k hk; omega
    have hsort : sortL ((List.range i).map (fun k => (sumS l k, sumS l (k + 1)))) = (List.range i).map (fun k => (sumS l k, sumS l (k + 1))) := by
      refine sortL_eq _ _ (List.Perm.refl _) ?_ ?_
      · unfold Asc
        rw [List.pairwise_map]
        refine (List.pairwise_lt_range (n := i)).imp_of_mem ?_
        intro a b ha hb hab
        rw [List.mem_range] at ha hb
        exact sumS_le l n hss a b (by omega) (by omega)
      · unfold Keys
        rw [List.pairwise_map]
        refine (List.pairwise_lt_range (n := i)).imp_of_mem ?_
        intro a b ha hb hab
        rw [List.mem_range] at ha hb
        have h1 := sumS_le l n hss (a + 1) b (by omega) (by omega)
        have h2 := hs a (by omega)
        rw [sumS] at h1
        simp only []
        omega
    have hg : ∀ (size : Int), 1 ≤ size → ∀ j, j ≤ i → gapL size ((List.range j).map (fun k => (sumS l k, sumS l (k + 1)))) = (sumS l j, -1, 0) := by
      intro size hsz j
      induction j with
      | zero => intro _; rfl
      | succ j ihj =>
        intro hj
        have ihj := ihj (by omega)
        unfold gapL at ihj ⊢
        rw [List.range_succ, List.map_append, List.foldl_append, ihj]
        simp only [List.map_cons, List.map_nil, List.foldl_cons, List.foldl_nil, gapS]
        rw [if_neg (by omega)]
    rw [placeL, ht, hsort, ih, List.range_succ, List.map_append]
    congr 1
    unfold gapF
    rw [hg _ (hs i (by omega)) i (Nat.le_refl _)]
    rfl
end Go.Proofs.A
