/- Parts of a proof about this program: contracts of its functions. -/
import Derived.Sort.Walk13a
import Derived.Sort.AssemblyPlain
import Derived.Test.YtbifnbkphenncaaP3
/- Sorting: the whole. -/
set_option linter.unusedVariables false
set_option maxRecDepth 8000
set_option maxHeartbeats 4000000
set_option linter.unusedSimpArgs false
namespace Go.Proofs.A
open Go Go.Ab
theorem swoS : Sort.SWO ltS where
  irrefl x := by simp [ltS]
  trans x y z h1 h2 := by simp only [ltS, decide_eq_true_eq] at *; omega
  ntrans x y z h1 h2 := by simp only [ltS, decide_eq_false_iff_not] at *; omega
section
variable {d D : Array Sp} {a b limit P L : Nat} {wb wp : Bool}
theorem pdqE (h : ¬ b - a ≤ 12) (h0 : ¬ limit = 0) (hpi : (Sort.rd ltS d a b limit wb wp).pi = (D, false)) (hP : (Sort.rd ltS d a b limit wb wp).pivot = P) (hL : (Sort.rd ltS d a b limit wb wp).lim = L) (h1 : a > 0) (h2 : ltS D[a - 1]! D[P]! = false) (h3 : a < (Sort.partitionEqual ltS D a b P).1 ∧ (Sort.partitionEqual ltS D a b P).1 ≤ b) :
    Sort.pdq ltS d a b limit wb wp = Sort.pdq ltS (Sort.partitionEqual ltS D a b P).2 (Sort.partitionEqual ltS D a b P).1 b L wb wp := by
  have e1 : (Sort.rd ltS d a b limit wb wp).pi.1 = D := by rw [hpi]
  subst hP; subst hL; subst e1
  exact Sort.pdq_eq h h0 (by rw [hpi]) (by rw [h2]; simp [h1]) h3
theorem pdqL (h : ¬ b - a ≤ 12) (h0 : ¬ limit = 0) (hpi : (Sort.rd ltS d a b limit wb wp).pi = (D, false)) (hP : (Sort.rd ltS d a b limit wb wp).pivot = P) (hL : (Sort.rd ltS d a b limit wb wp).lim = L) (h2 : a = 0 ∨ ltS D[a - 1]! D[P]! = true) (h3 : a ≤ (Sort.partition ltS D a b P).1 ∧ (Sort.partition ltS D a b P).1 < b) (h4 : (Sort.partition ltS D a b P).1 - a < b - (Sort.partition ltS D a b P).1) :
    Sort.pdq ltS d a b limit wb wp = Sort.pdq ltS (Sort.pdq ltS (Sort.partition ltS D a b P).2.2 a (Sort.partition ltS D a b P).1 L true true) ((Sort.partition ltS D a b P).1 + 1) b L (decide ((Sort.partition ltS D a b P).1 - a ≥ (b - a) / 8)) (Sort.partition ltS D a b P).2.1 := by
  have e1 : (Sort.rd ltS d a b limit wb wp).pi.1 = D := by rw [hpi]
  subst hP; subst hL; subst e1
  exact Sort.pdq_left h h0 (by rw [hpi]) (by rcases h2 with h2 | h2 <;> simp [h2]) h3 h4
theorem pdqR (h : ¬ b - a ≤ 12) (h0 : ¬ limit = 0) (hpi : (Sort.rd ltS d a b limit wb wp).pi = (D, false)) (hP : (Sort.rd ltS d a b limit wb wp).pivot = P) (hL : (Sort.rd ltS d a b limit wb wp).lim = L) (h2 : a = 0 ∨ ltS D[a - 1]! D[P]! = true) (h3 : a ≤ (Sort.partition ltS D a b P).1 ∧ (Sort.partition ltS D a b P).1 < b) (h4 : ¬ (Sort.partition ltS D a b P).1 - a < b - (Sort.partition ltS D a b P).1) :
    Sort.pdq ltS d a b limit wb wp = Sort.pdq ltS (Sort.pdq ltS (Sort.partition ltS D a b P).2.2 ((Sort.partition ltS D a b P).1 + 1) b L true true) a (Sort.partition ltS D a b P).1 L (decide (b - (Sort.partition ltS D a b P).1 ≥ (b - a) / 8)) (Sort.partition ltS D a b P).2.1 := by
  have e1 : (Sort.rd ltS d a b limit wb wp).pi.1 = D := by rw [hpi]
  subst hP; subst hL; subst e1
  exact Sort.pdq_right h h0 (by rw [hpi]) (by rcases h2 with h2 | h2 <;> simp [h2]) h3 h4
end
theorem pdq_ok (n : Nat) : ∀ (H : AH) (bx : Nat) (d : Array Sp) (a b limit : Nat), b - a ≤ n → SpAt H bx d → H.ro ≤ H.size → a ≤ b → b ≤ d.size → limit ≤ 1000 → Sort.Below ltS a b d →
    Runs tb 37 [SV bx d, .int .i64 a, .int .i64 b, .int .i64 limit, cmpV] H (fun r H' => r = .tuple #[] ∧ SpAt H' bx (Sort.pdq ltS d a b limit true true) ∧ Fr bx H H') := by
  induction n using Nat.strongRecOn with
  | _ n IH =>
    intro H bx d a b limit hn h hr0 hab hb hlim hB0
    have hbd := h.bd
    unfold SV
    refine Runs_fn (fn := Try.f37) [] [0, 1, 2, 3, 4, 10, 11, 12, 13, 14, 15, 16, 17, 18, 19, 20] [] 3000 (by kernel_rfl) rfl (by kernel_rfl) (by kernel_rfl) rfl ?_; simp only [pad, argAt]
    simp (disch := omega) only [go_sem, Nat.reduceEqDiff, Nat.reduceAdd, ↓reduceIte, get_pushB, get_putB, pickB_t, pickB_f, eqB_t, eqB_f, ltB_t, leB_t, AH.size_push, AH.size_put, AH.ro_push, AH.ro_put]
    refine Sat_loop 3000 (fun k K W => ∃ (a' b' lim : Nat) (wb wp : Bool) (e : Array Sp) (x12 x13 x14 x15 x16 x17 x18 x19 x20 : Value), a' ≤ b' ∧ b' ≤ d.size ∧ b' - a' ≤ b - a ∧ lim ≤ 1000 ∧ k = b' - a' ∧ SpAt K bx e ∧ e.size = d.size ∧ Sort.Below ltS a' b' e ∧ Sort.pdq ltS e a' b' lim wb wp = Sort.pdq ltS d a b limit true true ∧ Fr bx H K ∧ W = [.slice (some ⟨bx, 0, none⟩) d.size 2, .int .i64 ((a' : Nat) : Int), .int .i64 ((b' : Nat) : Int), .int .i64 ((lim : Nat) : Int), cmpV, .bool wb, .bool wp, x12, x13, x14, x15, x16, x17, x18, x19, x20]) (b - a) ⟨a, b, limit, true, true, d, _, _, _, _, _, _, _, _, _, hab, hb, Nat.le_refl _, hlim, rfl, h, rfl, hB0, rfl, Fr.refl _ _, rfl⟩ ?_
    rintro k K W ⟨a', b', lim, wb, wp, e, x12, x13, x14, x15, x16, x17, x18, x19, x20, hab', hb', hn', hl', rfl, he, hes, hB, hspec, hF, rfl⟩ ih
    obtain ⟨l, hl⟩ : ∃ l, l = b' - a' := ⟨_, rfl⟩
    have el : (b' : Int) - a' = (l : Int) := by omega
    simp (disch := omega) only [go_sem, Nat.reduceEqDiff, Nat.reduceAdd, ↓reduceIte, get_pushB, get_putB, pickB_t, pickB_f, eqB_t, eqB_f, ltB_t, leB_t, AH.size_push, AH.size_put, AH.ro_push, AH.ro_put, el]
    refine Split.mk (fun c1 => ?_) (fun c1 => ?_)
    · have hc := insertion_ok K bx e a' b' he hab' (by omega)
      rw [hes] at hc
      simp (disch := omega) only [go_sem, Nat.reduceEqDiff, Nat.reduceAdd, ↓reduceIte, get_pushB, get_putB, pickB_t, pickB_f, eqB_t, eqB_f, ltB_t, leB_t, AH.size_push, AH.size_put, AH.ro_push, AH.ro_put]
      refine callW_of hc ?_
      rintro r K2 ⟨rfl, he2, hF2⟩
      rw [Sort.pdq_small (by omega)] at hspec
      simp (disch := omega) only [go_sem, Nat.reduceEqDiff, Nat.reduceAdd, ↓reduceIte, get_pushB, get_putB, pickB_t, pickB_f, eqB_t, eqB_f, ltB_t, leB_t, AH.size_push, AH.size_put, AH.ro_push, AH.ro_put]
      rw [← hspec]
      exact ⟨he2, hF.trans hF2⟩
    · simp (disch := omega) only [go_sem, Nat.reduceEqDiff, Nat.reduceAdd, ↓reduceIte, get_pushB, get_putB, pickB_t, pickB_f, eqB_t, eqB_f, ltB_t, leB_t, AH.size_push, AH.size_put, AH.ro_push, AH.ro_put]
      refine Split.mk (fun c2 => ?_) (fun c2 => ?_)
      · have hc := heap_ok K bx e a' b' he (by omega) (by omega)
        rw [SV, hes] at hc
        simp (disch := omega) only [go_sem, Nat.reduceEqDiff, Nat.reduceAdd, ↓reduceIte, get_pushB, get_putB, pickB_t, pickB_f, eqB_t, eqB_f, ltB_t, leB_t, AH.size_push, AH.size_put, AH.ro_push, AH.ro_put]
        refine callW_of hc ?_
        rintro r K2 ⟨rfl, he2, hF2⟩
        rw [Sort.pdq_heap (by omega) (by omega)] at hspec
        simp (disch := omega) only [go_sem, Nat.reduceEqDiff, Nat.reduceAdd, ↓reduceIte, get_pushB, get_putB, pickB_t, pickB_f, eqB_t, eqB_f, ltB_t, leB_t, AH.size_push, AH.size_put, AH.ro_push, AH.ro_put]
        rw [← hspec]
        exact ⟨he2, hF.trans hF2⟩
      · have hrf := fun wb wp => Sort.rd_facts (d := e) (a := a') (b := b') (limit := lim) (wb := wb) (wp := wp) swoS Sort.partialInsertionSort_holds Sort.reverseRange_holds (by omega) (by omega) hB
        have hroK : K.ro ≤ K.size := by have := hF.ro; have := hF.size; omega
        cases wb
        · have hc := break_ok K bx e a' b' he hroK (by omega) (by omega)
          rw [SV, hes] at hc
          simp (disch := omega) only [go_sem, Nat.reduceEqDiff, Nat.reduceAdd, ↓reduceIte, get_pushB, get_putB, pickB_t, pickB_f, eqB_t, eqB_f, ltB_t, leB_t, AH.size_push, AH.size_put, AH.ro_push, AH.ro_put]
          refine callW_of hc ?_
          rintro r K1 ⟨rfl, he1, hF1⟩
          clear hc
          have hF1 := hF.trans hF1
          obtain ⟨D1, hD1⟩ : ∃ x, x = Sort.breakPatterns e a' b' := ⟨_, rfl⟩
          obtain ⟨L, hL⟩ : ∃ x, x = lim - 1 := ⟨_, rfl⟩
          have eL : (lim : Int) - 1 = (L : Int) := by omega
          have hLe : (Sort.rd ltS e a' b' lim false wp).lim = L := hL.symm
          have hd1 : (Sort.rd ltS e a' b' lim false wp).d1 = D1 := hD1.symm
          rw [← hD1] at he1
          obtain ⟨f1, f2, f3, f4, f5, f6, f7, f8⟩ := hrf false wp
          have hcd := @Sort.rd_c Sp _ ltS e a' b' lim false wp
          rw [hd1] at f1 hcd
          have s1 : D1.size = d.size := f1.trans hes
          have hc := choose_ok K1 bx D1 a' b' he1 (by have := hF1.ro; have := hF1.size; omega) (by omega) (by omega)
          rw [SV, s1] at hc
          simp (disch := omega) only [go_sem, Nat.reduceEqDiff, Nat.reduceAdd, ↓reduceIte, get_pushB, get_putB, pickB_t, pickB_f, eqB_t, eqB_f, ltB_t, leB_t, AH.size_push, AH.size_put, AH.ro_push, AH.ro_put, eL]
          refine callW_of hc ?_
          rintro r K2 ⟨rfl, he2, hE2⟩
          clear hc
          have hF2 := hF1.trans (Fr.of_ext bx hE2)
          rw [hcd] at f3
          obtain ⟨C, hC⟩ : ∃ x, x = Sort.choosePivot ltS D1 a' b' := ⟨_, rfl⟩
          rw [← hC] at f3 hcd ⊢
          simp (disch := omega) only [go_sem, Nat.reduceEqDiff, Nat.reduceAdd, ↓reduceIte, get_pushB, get_putB, pickB_t, pickB_f, eqB_t, eqB_f, ltB_t, leB_t, AH.size_push, AH.size_put, AH.ro_push, AH.ro_put]
          rcases hh : C.2 with _ | _ | _
          · have hc2 : (Sort.rd ltS e a' b' lim false wp).c.2 = .unknown := by rw [hcd]; exact hh
            obtain ⟨g1, g2, g3⟩ := Sort.rd_not (show (Sort.rd ltS e a' b' lim false wp).c.2 ≠ .decreasing by rw [hc2]; decide)
            rw [hd1] at g1
            obtain ⟨D2, hD2⟩ : ∃ x, x = D1 := ⟨_, rfl⟩
            have hd2 : (Sort.rd ltS e a' b' lim false wp).d2 = D2 := g1.trans hD2.symm
            have hhi : (Sort.rd ltS e a' b' lim false wp).hint = .unknown := g3.trans hc2
            rw [hcd] at g2
            obtain ⟨P, hP⟩ : ∃ x, x = C.1 := ⟨_, rfl⟩
            have hPe : (Sort.rd ltS e a' b' lim false wp).pivot = P := g2.trans hP.symm
            rw [hPe] at f6
            obtain ⟨hP1, hP2⟩ := f6
            rw [hd2] at f4
            have s2 : D2.size = d.size := f4.trans hes
            have he3 : SpAt K2 bx D2 := by rw [hD2]; exact he2
            rw [← hP]
            refine Split.mk (fun u => absurd u (by decide)) (fun _ => ?_)
            simp (disch := omega) only [go_sem, Nat.reduceEqDiff, Nat.reduceAdd, ↓reduceIte, get_pushB, get_putB, pickB_t, pickB_f, eqB_t, eqB_f, ltB_t, leB_t, AH.size_push, AH.size_put, AH.ro_push, AH.ro_put]
            have hpi0 : (Sort.rd ltS e a' b' lim false wp).pi = (D2, false) := by rw [Sort.rd_pi_no (by simp), hd2]
            obtain ⟨D, hD⟩ : ∃ x, x = D2 := ⟨_, rfl⟩
            rw [← hD] at hpi0
            have hpi := hpi0
            rw [hpi0] at f7 f8
            have hBD : Sort.Below ltS a' b' D := f8
            have sD : D.size = d.size := f7.trans hes
            have he4 : SpAt K2 bx D := by rw [hD]; exact he3
            have hF4 := hF2
            refine SplitG.mk (fun g1 => ?_) (fun g1 => ?_)
            · have ea : (a' : Int) - 1 = ((a' - 1 : Nat) : Int) := by omega
              have y1 := sp_ix bx d.size ((a' - 1 : Nat) : Int) (by omega) .i64
              have y2 := sp_ix bx d.size (P : Int) (by omega) .i64
              have z1 := sp_ld he4 ((a' - 1 : Nat) : Int) (by omega)
              have z2 := sp_ld he4 (P : Int) (by omega)
              simp only [Int.toNat_natCast] at z1 z2
              simp (disch := omega) only [go_sem, Nat.reduceEqDiff, Nat.reduceAdd, ↓reduceIte, get_pushB, get_putB, pickB_t, pickB_f, eqB_t, eqB_f, ltB_t, leB_t, AH.size_push, AH.size_put, AH.ro_push, AH.ro_put, ea, y1, y2, z1, z2]
              refine callW_of (cmp_ok _ _ _) ?_
              rintro r KD ⟨c, rfl, hcc, hc1, hc2, hE⟩
              have heK := he4.ext hE
              have hFK := hF4.trans (Fr.of_ext bx hE)
              simp (disch := omega) only [go_sem, Nat.reduceEqDiff, Nat.reduceAdd, ↓reduceIte, get_pushB, get_putB, pickB_t, pickB_f, eqB_t, eqB_f, ltB_t, leB_t, AH.size_push, AH.size_put, AH.ro_push, AH.ro_put]
              refine Split.mk (fun g2 => ?_) (fun g2 => ?_)
              · have hlt : ltS D[a' - 1]! D[P]! = false := by simp only [ltS, decide_eq_false_iff_not]; exact fun h => absurd (hcc.2 h) (by omega)
                obtain ⟨q1, q2, q3, q4, -⟩ := Sort.round_eq swoS (Sort.partitionEqual_holds ltS) (by omega) hP1 hP2 (by omega) hBD hlt (show Sort.partitionEqual ltS D a' b' P = ((Sort.partitionEqual ltS D a' b' P).1, (Sort.partitionEqual ltS D a' b' P).2) from rfl)
                have hc := partitionEqual_ok KD bx D a' b' P heK (by omega) (by omega) hP2
                rw [SV, sD] at hc
                simp (disch := omega) only [go_sem, Nat.reduceEqDiff, Nat.reduceAdd, ↓reduceIte, get_pushB, get_putB, pickB_t, pickB_f, eqB_t, eqB_f, ltB_t, leB_t, AH.size_push, AH.size_put, AH.ro_push, AH.ro_put]
                refine callW_of hc ?_
                rintro r K5 ⟨rfl, he5, hF5⟩
                clear hc
                rw [@pdqE e D a' b' lim P L false wp (by omega) (by omega) hpi hPe hLe (by omega) hlt ⟨q1, q2⟩] at hspec
                simp (disch := omega) only [go_sem, Nat.reduceEqDiff, Nat.reduceAdd, ↓reduceIte, get_pushB, get_putB, pickB_t, pickB_f, eqB_t, eqB_f, ltB_t, leB_t, AH.size_push, AH.size_put, AH.ro_push, AH.ro_put]
                refine ih _ _ _ ?_ ⟨_, b', L, false, wp, _, _, _, _, _, _, _, _, _, _, q2, by omega, by omega, by omega, rfl, he5, by rw [q3, sD], q4, hspec, hFK.trans hF5, rfl⟩
                omega
              · have hlt : ltS D[a' - 1]! D[P]! = true := by simp only [ltS, decide_eq_true_eq]; exact hcc.1 (by omega)
                have hor : a' = 0 ∨ ltS D[a' - 1]! D[P]! = true := .inr hlt
                simp (disch := omega) only [go_sem, Nat.reduceEqDiff, Nat.reduceAdd, ↓reduceIte, get_pushB, get_putB, pickB_t, pickB_f, eqB_t, eqB_f, ltB_t, leB_t, AH.size_push, AH.size_put, AH.ro_push, AH.ro_put]
                have hpt := Sort.partition_holds ltS swoS D a' b' P hP1 hP2 (by omega)
                obtain ⟨q1, q2, q3, q4, q5, q6, q7⟩ := Sort.round_part swoS (Sort.partition_holds ltS) hP1 hP2 (by omega) hBD (show Sort.partition ltS D a' b' P = ((Sort.partition ltS D a' b' P).1, (Sort.partition ltS D a' b' P).2.1, (Sort.partition ltS D a' b' P).2.2) from rfl)
                have hc := partition_ok KD bx D a' b' P heK (by omega) (by omega) hP2
                rw [SV, sD] at hc
                refine callW_of hc ?_
                rintro r K5 ⟨rfl, he5, hF5⟩
                clear hc
                have hF5 := hFK.trans hF5
                have pL := @pdqL e D a' b' lim P L false wp (by omega) (by omega) hpi hPe hLe hor ⟨q1, q2⟩
                have pR := @pdqR e D a' b' lim P L false wp (by omega) (by omega) hpi hPe hLe hor ⟨q1, q2⟩
                obtain ⟨mid, hmid⟩ : ∃ m, m = (Sort.partition ltS D a' b' P).1 := ⟨_, rfl⟩
                obtain ⟨ap, hap⟩ : ∃ m, m = (Sort.partition ltS D a' b' P).2.1 := ⟨_, rfl⟩
                obtain ⟨D4, hD4⟩ : ∃ m, m = (Sort.partition ltS D a' b' P).2.2 := ⟨_, rfl⟩
                rw [← hmid, ← hap, ← hD4] at pL pR
                rw [← hmid] at q1 q2 q4 q5 q6 q7
                rw [← hD4] at q3 q4 q5 q6 q7 he5
                rw [← hmid, ← hap]
                have el1 : (mid : Int) - a' = ((mid - a' : Nat) : Int) := by omega
                have el2 : (b' : Int) - mid = ((b' - mid : Nat) : Int) := by omega
                have q8 : IntKind.i64.wrap ((l : Int).tdiv 8) = ((l / 8 : Nat) : Int) := by rw [IntWalk.i64_quo _ _ ⟨by omega, by omega, by omega⟩]; omega
                have sD4 : D4.size = d.size := by rw [q3, sD]
                simp (disch := omega) only [go_sem, Nat.reduceEqDiff, Nat.reduceAdd, ↓reduceIte, get_pushB, get_putB, pickB_t, pickB_f, eqB_t, eqB_f, ltB_t, leB_t, AH.size_push, AH.size_put, AH.ro_push, AH.ro_put, el1, el2, q8]
                refine ⟨by decide, Split.mk (fun m1 => ?_) (fun m1 => ?_)⟩
                · have pL := pL (by omega)
                  have hc := IH (mid - a') (by omega) K5 bx D4 a' mid L (by omega) he5 (by have := hF5.ro; have := hF5.size; omega) q1 (by omega) (by omega) q4
                  rw [SV, sD4] at hc
                  simp (disch := omega) only [go_sem, Nat.reduceEqDiff, Nat.reduceAdd, ↓reduceIte, get_pushB, get_putB, pickB_t, pickB_f, eqB_t, eqB_f, ltB_t, leB_t, AH.size_push, AH.size_put, AH.ro_push, AH.ro_put]
                  refine callW_of hc ?_
                  rintro r K6 ⟨rfl, he6, hF6⟩
                  clear hc
                  obtain ⟨r1, r2⟩ := Sort.pdq_sorts ltS swoS D4 a' mid L true true q1 (by omega) q4
                  obtain ⟨r3, -⟩ := q6 _ r1 r2
                  have ed : decide (((l / 8 : Nat) : Int) ≤ ((mid - a' : Nat) : Int)) = decide (mid - a' ≥ (b' - a') / 8) := by rw [← hl]; exact decide_eq_decide.2 (by omega)
                  simp (disch := omega) only [go_sem, Nat.reduceEqDiff, Nat.reduceAdd, ↓reduceIte, get_pushB, get_putB, pickB_t, pickB_f, eqB_t, eqB_f, ltB_t, leB_t, AH.size_push, AH.size_put, AH.ro_push, AH.ro_put]
                  refine ih _ _ _ ?_ ⟨mid + 1, b', L, decide (mid - a' ≥ (b' - a') / 8), ap, _, _, _, _, _, _, _, _, _, _, by omega, by omega, by omega, by omega, rfl, he6, r1.1.trans sD4, r3, pL.symm.trans hspec, hF5.trans hF6, by rw [← ed]; simp only [Int.natCast_add]; rfl⟩
                  omega
                · have pR := pR (by omega)
                  have em : (mid : Int) + 1 = ((mid + 1 : Nat) : Int) := by omega
                  have hc := IH (b' - (mid + 1)) (by omega) K5 bx D4 (mid + 1) b' L (by omega) he5 (by have := hF5.ro; have := hF5.size; omega) (by omega) (by omega) (by omega) q5
                  rw [SV, sD4] at hc
                  simp (disch := omega) only [go_sem, Nat.reduceEqDiff, Nat.reduceAdd, ↓reduceIte, get_pushB, get_putB, pickB_t, pickB_f, eqB_t, eqB_f, ltB_t, leB_t, AH.size_push, AH.size_put, AH.ro_push, AH.ro_put, em]
                  refine callW_of hc ?_
                  rintro r K6 ⟨rfl, he6, hF6⟩
                  clear hc
                  obtain ⟨r1, r2⟩ := Sort.pdq_sorts ltS swoS D4 (mid + 1) b' L true true (by omega) (by omega) q5
                  obtain ⟨r3, -⟩ := q7 _ r1 r2
                  have ed : decide (((l / 8 : Nat) : Int) ≤ ((b' - mid : Nat) : Int)) = decide (b' - mid ≥ (b' - a') / 8) := by rw [← hl]; exact decide_eq_decide.2 (by omega)
                  simp (disch := omega) only [go_sem, Nat.reduceEqDiff, Nat.reduceAdd, ↓reduceIte, get_pushB, get_putB, pickB_t, pickB_f, eqB_t, eqB_f, ltB_t, leB_t, AH.size_push, AH.size_put, AH.ro_push, AH.ro_put]
                  refine ih _ _ _ ?_ ⟨a', mid, L, decide (b' - mid ≥ (b' - a') / 8), ap, _, _, _, _, _, _, _, _, _, _, by omega, by omega, by omega, by omega, rfl, he6, r1.1.trans sD4, r3, pR.symm.trans hspec, hF5.trans hF6, by rw [← ed]⟩
                  omega
            · have hor : a' = 0 ∨ ltS D[a' - 1]! D[P]! = true := .inl (by omega)
              have heK := he4
              have hFK := hF4
              simp (disch := omega) only [go_sem, Nat.reduceEqDiff, Nat.reduceAdd, ↓reduceIte, get_pushB, get_putB, pickB_t, pickB_f, eqB_t, eqB_f, ltB_t, leB_t, AH.size_push, AH.size_put, AH.ro_push, AH.ro_put]
              have hpt := Sort.partition_holds ltS swoS D a' b' P hP1 hP2 (by omega)
              obtain ⟨q1, q2, q3, q4, q5, q6, q7⟩ := Sort.round_part swoS (Sort.partition_holds ltS) hP1 hP2 (by omega) hBD (show Sort.partition ltS D a' b' P = ((Sort.partition ltS D a' b' P).1, (Sort.partition ltS D a' b' P).2.1, (Sort.partition ltS D a' b' P).2.2) from rfl)
              have hc := partition_ok _ bx D a' b' P heK (by omega) (by omega) hP2
              rw [SV, sD] at hc
              refine callW_of hc ?_
              rintro r K5 ⟨rfl, he5, hF5⟩
              clear hc
              have hF5 := hFK.trans hF5
              have pL := @pdqL e D a' b' lim P L false wp (by omega) (by omega) hpi hPe hLe hor ⟨q1, q2⟩
              have pR := @pdqR e D a' b' lim P L false wp (by omega) (by omega) hpi hPe hLe hor ⟨q1, q2⟩
              obtain ⟨mid, hmid⟩ : ∃ m, m = (Sort.partition ltS D a' b' P).1 := ⟨_, rfl⟩
              obtain ⟨ap, hap⟩ : ∃ m, m = (Sort.partition ltS D a' b' P).2.1 := ⟨_, rfl⟩
              obtain ⟨D4, hD4⟩ : ∃ m, m = (Sort.partition ltS D a' b' P).2.2 := ⟨_, rfl⟩
              rw [← hmid, ← hap, ← hD4] at pL pR
              rw [← hmid] at q1 q2 q4 q5 q6 q7
              rw [← hD4] at q3 q4 q5 q6 q7 he5
              rw [← hmid, ← hap]
              have el1 : (mid : Int) - a' = ((mid - a' : Nat) : Int) := by omega
              have el2 : (b' : Int) - mid = ((b' - mid : Nat) : Int) := by omega
              have q8 : IntKind.i64.wrap ((l : Int).tdiv 8) = ((l / 8 : Nat) : Int) := by rw [IntWalk.i64_quo _ _ ⟨by omega, by omega, by omega⟩]; omega
              have sD4 : D4.size = d.size := by rw [q3, sD]
              simp (disch := omega) only [go_sem, Nat.reduceEqDiff, Nat.reduceAdd, ↓reduceIte, get_pushB, get_putB, pickB_t, pickB_f, eqB_t, eqB_f, ltB_t, leB_t, AH.size_push, AH.size_put, AH.ro_push, AH.ro_put, el1, el2, q8]
              refine ⟨by decide, Split.mk (fun m1 => ?_) (fun m1 => ?_)⟩
              · have pL := pL (by omega)
                have hc := IH (mid - a') (by omega) K5 bx D4 a' mid L (by omega) he5 (by have := hF5.ro; have := hF5.size; omega) q1 (by omega) (by omega) q4
                rw [SV, sD4] at hc
                simp (disch := omega) only [go_sem, Nat.reduceEqDiff, Nat.reduceAdd, ↓reduceIte, get_pushB, get_putB, pickB_t, pickB_f, eqB_t, eqB_f, ltB_t, leB_t, AH.size_push, AH.size_put, AH.ro_push, AH.ro_put]
                refine callW_of hc ?_
                rintro r K6 ⟨rfl, he6, hF6⟩
                clear hc
                obtain ⟨r1, r2⟩ := Sort.pdq_sorts ltS swoS D4 a' mid L true true q1 (by omega) q4
                obtain ⟨r3, -⟩ := q6 _ r1 r2
                have ed : decide (((l / 8 : Nat) : Int) ≤ ((mid - a' : Nat) : Int)) = decide (mid - a' ≥ (b' - a') / 8) := by rw [← hl]; exact decide_eq_decide.2 (by omega)
                simp (disch := omega) only [go_sem, Nat.reduceEqDiff, Nat.reduceAdd, ↓reduceIte, get_pushB, get_putB, pickB_t, pickB_f, eqB_t, eqB_f, ltB_t, leB_t, AH.size_push, AH.size_put, AH.ro_push, AH.ro_put]
                refine ih _ _ _ ?_ ⟨mid + 1, b', L, decide (mid - a' ≥ (b' - a') / 8), ap, _, _, _, _, _, _, _, _, _, _, by omega, by omega, by omega, by omega, rfl, he6, r1.1.trans sD4, r3, pL.symm.trans hspec, hF5.trans hF6, by rw [← ed]; simp only [Int.natCast_add]; rfl⟩
                omega
              · have pR := pR (by omega)
                have em : (mid : Int) + 1 = ((mid + 1 : Nat) : Int) := by omega
                have hc := IH (b' - (mid + 1)) (by omega) K5 bx D4 (mid + 1) b' L (by omega) he5 (by have := hF5.ro; have := hF5.size; omega) (by omega) (by omega) (by omega) q5
                rw [SV, sD4] at hc
                simp (disch := omega) only [go_sem, Nat.reduceEqDiff, Nat.reduceAdd, ↓reduceIte, get_pushB, get_putB, pickB_t, pickB_f, eqB_t, eqB_f, ltB_t, leB_t, AH.size_push, AH.size_put, AH.ro_push, AH.ro_put, em]
                refine callW_of hc ?_
                rintro r K6 ⟨rfl, he6, hF6⟩
                clear hc
                obtain ⟨r1, r2⟩ := Sort.pdq_sorts ltS swoS D4 (mid + 1) b' L true true (by omega) (by omega) q5
                obtain ⟨r3, -⟩ := q7 _ r1 r2
                have ed : decide (((l / 8 : Nat) : Int) ≤ ((b' - mid : Nat) : Int)) = decide (b' - mid ≥ (b' - a') / 8) := by rw [← hl]; exact decide_eq_decide.2 (by omega)
                simp (disch := omega) only [go_sem, Nat.reduceEqDiff, Nat.reduceAdd, ↓reduceIte, get_pushB, get_putB, pickB_t, pickB_f, eqB_t, eqB_f, ltB_t, leB_t, AH.size_push, AH.size_put, AH.ro_push, AH.ro_put]
                refine ih _ _ _ ?_ ⟨a', mid, L, decide (b' - mid ≥ (b' - a') / 8), ap, _, _, _, _, _, _, _, _, _, _, by omega, by omega, by omega, by omega, rfl, he6, r1.1.trans sD4, r3, pR.symm.trans hspec, hF5.trans hF6, by rw [← ed]⟩
                omega
          · have hc2 : (Sort.rd ltS e a' b' lim false wp).c.2 = .increasing := by rw [hcd]; exact hh
            obtain ⟨g1, g2, g3⟩ := Sort.rd_not (show (Sort.rd ltS e a' b' lim false wp).c.2 ≠ .decreasing by rw [hc2]; decide)
            rw [hd1] at g1
            obtain ⟨D2, hD2⟩ : ∃ x, x = D1 := ⟨_, rfl⟩
            have hd2 : (Sort.rd ltS e a' b' lim false wp).d2 = D2 := g1.trans hD2.symm
            have hhi : (Sort.rd ltS e a' b' lim false wp).hint = .increasing := g3.trans hc2
            rw [hcd] at g2
            obtain ⟨P, hP⟩ : ∃ x, x = C.1 := ⟨_, rfl⟩
            have hPe : (Sort.rd ltS e a' b' lim false wp).pivot = P := g2.trans hP.symm
            rw [hPe] at f6
            obtain ⟨hP1, hP2⟩ := f6
            rw [hd2] at f4
            have s2 : D2.size = d.size := f4.trans hes
            have he3 : SpAt K2 bx D2 := by rw [hD2]; exact he2
            rw [← hP]
            refine Split.mk (fun u => absurd u (by decide)) (fun _ => ?_)
            simp (disch := omega) only [go_sem, Nat.reduceEqDiff, Nat.reduceAdd, ↓reduceIte, get_pushB, get_putB, pickB_t, pickB_f, eqB_t, eqB_f, ltB_t, leB_t, AH.size_push, AH.size_put, AH.ro_push, AH.ro_put]
            have hpi0 : (Sort.rd ltS e a' b' lim false wp).pi = (D2, false) := by rw [Sort.rd_pi_no (by simp), hd2]
            obtain ⟨D, hD⟩ : ∃ x, x = D2 := ⟨_, rfl⟩
            rw [← hD] at hpi0
            have hpi := hpi0
            rw [hpi0] at f7 f8
            have hBD : Sort.Below ltS a' b' D := f8
            have sD : D.size = d.size := f7.trans hes
            have he4 : SpAt K2 bx D := by rw [hD]; exact he3
            have hF4 := hF2
            refine SplitG.mk (fun g1 => ?_) (fun g1 => ?_)
            · have ea : (a' : Int) - 1 = ((a' - 1 : Nat) : Int) := by omega
              have y1 := sp_ix bx d.size ((a' - 1 : Nat) : Int) (by omega) .i64
              have y2 := sp_ix bx d.size (P : Int) (by omega) .i64
              have z1 := sp_ld he4 ((a' - 1 : Nat) : Int) (by omega)
              have z2 := sp_ld he4 (P : Int) (by omega)
              simp only [Int.toNat_natCast] at z1 z2
              simp (disch := omega) only [go_sem, Nat.reduceEqDiff, Nat.reduceAdd, ↓reduceIte, get_pushB, get_putB, pickB_t, pickB_f, eqB_t, eqB_f, ltB_t, leB_t, AH.size_push, AH.size_put, AH.ro_push, AH.ro_put, ea, y1, y2, z1, z2]
              refine callW_of (cmp_ok _ _ _) ?_
              rintro r KD ⟨c, rfl, hcc, hc1, hc2, hE⟩
              have heK := he4.ext hE
              have hFK := hF4.trans (Fr.of_ext bx hE)
              simp (disch := omega) only [go_sem, Nat.reduceEqDiff, Nat.reduceAdd, ↓reduceIte, get_pushB, get_putB, pickB_t, pickB_f, eqB_t, eqB_f, ltB_t, leB_t, AH.size_push, AH.size_put, AH.ro_push, AH.ro_put]
              refine Split.mk (fun g2 => ?_) (fun g2 => ?_)
              · have hlt : ltS D[a' - 1]! D[P]! = false := by simp only [ltS, decide_eq_false_iff_not]; exact fun h => absurd (hcc.2 h) (by omega)
                obtain ⟨q1, q2, q3, q4, -⟩ := Sort.round_eq swoS (Sort.partitionEqual_holds ltS) (by omega) hP1 hP2 (by omega) hBD hlt (show Sort.partitionEqual ltS D a' b' P = ((Sort.partitionEqual ltS D a' b' P).1, (Sort.partitionEqual ltS D a' b' P).2) from rfl)
                have hc := partitionEqual_ok KD bx D a' b' P heK (by omega) (by omega) hP2
                rw [SV, sD] at hc
                simp (disch := omega) only [go_sem, Nat.reduceEqDiff, Nat.reduceAdd, ↓reduceIte, get_pushB, get_putB, pickB_t, pickB_f, eqB_t, eqB_f, ltB_t, leB_t, AH.size_push, AH.size_put, AH.ro_push, AH.ro_put]
                refine callW_of hc ?_
                rintro r K5 ⟨rfl, he5, hF5⟩
                clear hc
                rw [@pdqE e D a' b' lim P L false wp (by omega) (by omega) hpi hPe hLe (by omega) hlt ⟨q1, q2⟩] at hspec
                simp (disch := omega) only [go_sem, Nat.reduceEqDiff, Nat.reduceAdd, ↓reduceIte, get_pushB, get_putB, pickB_t, pickB_f, eqB_t, eqB_f, ltB_t, leB_t, AH.size_push, AH.size_put, AH.ro_push, AH.ro_put]
                refine ih _ _ _ ?_ ⟨_, b', L, false, wp, _, _, _, _, _, _, _, _, _, _, q2, by omega, by omega, by omega, rfl, he5, by rw [q3, sD], q4, hspec, hFK.trans hF5, rfl⟩
                omega
              · have hlt : ltS D[a' - 1]! D[P]! = true := by simp only [ltS, decide_eq_true_eq]; exact hcc.1 (by omega)
                have hor : a' = 0 ∨ ltS D[a' - 1]! D[P]! = true := .inr hlt
                simp (disch := omega) only [go_sem, Nat.reduceEqDiff, Nat.reduceAdd, ↓reduceIte, get_pushB, get_putB, pickB_t, pickB_f, eqB_t, eqB_f, ltB_t, leB_t, AH.size_push, AH.size_put, AH.ro_push, AH.ro_put]
                have hpt := Sort.partition_holds ltS swoS D a' b' P hP1 hP2 (by omega)
                obtain ⟨q1, q2, q3, q4, q5, q6, q7⟩ := Sort.round_part swoS (Sort.partition_holds ltS) hP1 hP2 (by omega) hBD (show Sort.partition ltS D a' b' P = ((Sort.partition ltS D a' b' P).1, (Sort.partition ltS D a' b' P).2.1, (Sort.partition ltS D a' b' P).2.2) from rfl)
                have hc := partition_ok KD bx D a' b' P heK (by omega) (by omega) hP2
                rw [SV, sD] at hc
                refine callW_of hc ?_
                rintro r K5 ⟨rfl, he5, hF5⟩
                clear hc
                have hF5 := hFK.trans hF5
                have pL := @pdqL e D a' b' lim P L false wp (by omega) (by omega) hpi hPe hLe hor ⟨q1, q2⟩
                have pR := @pdqR e D a' b' lim P L false wp (by omega) (by omega) hpi hPe hLe hor ⟨q1, q2⟩
                obtain ⟨mid, hmid⟩ : ∃ m, m = (Sort.partition ltS D a' b' P).1 := ⟨_, rfl⟩
                obtain ⟨ap, hap⟩ : ∃ m, m = (Sort.partition ltS D a' b' P).2.1 := ⟨_, rfl⟩
                obtain ⟨D4, hD4⟩ : ∃ m, m = (Sort.partition ltS D a' b' P).2.2 := ⟨_, rfl⟩
                rw [← hmid, ← hap, ← hD4] at pL pR
                rw [← hmid] at q1 q2 q4 q5 q6 q7
                rw [← hD4] at q3 q4 q5 q6 q7 he5
                rw [← hmid, ← hap]
                have el1 : (mid : Int) - a' = ((mid - a' : Nat) : Int) := by omega
                have el2 : (b' : Int) - mid = ((b' - mid : Nat) : Int) := by omega
                have q8 : IntKind.i64.wrap ((l : Int).tdiv 8) = ((l / 8 : Nat) : Int) := by rw [IntWalk.i64_quo _ _ ⟨by omega, by omega, by omega⟩]; omega
                have sD4 : D4.size = d.size := by rw [q3, sD]
                simp (disch := omega) only [go_sem, Nat.reduceEqDiff, Nat.reduceAdd, ↓reduceIte, get_pushB, get_putB, pickB_t, pickB_f, eqB_t, eqB_f, ltB_t, leB_t, AH.size_push, AH.size_put, AH.ro_push, AH.ro_put, el1, el2, q8]
                refine ⟨by decide, Split.mk (fun m1 => ?_) (fun m1 => ?_)⟩
                · have pL := pL (by omega)
                  have hc := IH (mid - a') (by omega) K5 bx D4 a' mid L (by omega) he5 (by have := hF5.ro; have := hF5.size; omega) q1 (by omega) (by omega) q4
                  rw [SV, sD4] at hc
                  simp (disch := omega) only [go_sem, Nat.reduceEqDiff, Nat.reduceAdd, ↓reduceIte, get_pushB, get_putB, pickB_t, pickB_f, eqB_t, eqB_f, ltB_t, leB_t, AH.size_push, AH.size_put, AH.ro_push, AH.ro_put]
                  refine callW_of hc ?_
                  rintro r K6 ⟨rfl, he6, hF6⟩
                  clear hc
                  obtain ⟨r1, r2⟩ := Sort.pdq_sorts ltS swoS D4 a' mid L true true q1 (by omega) q4
                  obtain ⟨r3, -⟩ := q6 _ r1 r2
                  have ed : decide (((l / 8 : Nat) : Int) ≤ ((mid - a' : Nat) : Int)) = decide (mid - a' ≥ (b' - a') / 8) := by rw [← hl]; exact decide_eq_decide.2 (by omega)
                  simp (disch := omega) only [go_sem, Nat.reduceEqDiff, Nat.reduceAdd, ↓reduceIte, get_pushB, get_putB, pickB_t, pickB_f, eqB_t, eqB_f, ltB_t, leB_t, AH.size_push, AH.size_put, AH.ro_push, AH.ro_put]
                  refine ih _ _ _ ?_ ⟨mid + 1, b', L, decide (mid - a' ≥ (b' - a') / 8), ap, _, _, _, _, _, _, _, _, _, _, by omega, by omega, by omega, by omega, rfl, he6, r1.1.trans sD4, r3, pL.symm.trans hspec, hF5.trans hF6, by rw [← ed]; simp only [Int.natCast_add]; rfl⟩
                  omega
                · have pR := pR (by omega)
                  have em : (mid : Int) + 1 = ((mid + 1 : Nat) : Int) := by omega
                  have hc := IH (b' - (mid + 1)) (by omega) K5 bx D4 (mid + 1) b' L (by omega) he5 (by have := hF5.ro; have := hF5.size; omega) (by omega) (by omega) (by omega) q5
                  rw [SV, sD4] at hc
                  simp (disch := omega) only [go_sem, Nat.reduceEqDiff, Nat.reduceAdd, ↓reduceIte, get_pushB, get_putB, pickB_t, pickB_f, eqB_t, eqB_f, ltB_t, leB_t, AH.size_push, AH.size_put, AH.ro_push, AH.ro_put, em]
                  refine callW_of hc ?_
                  rintro r K6 ⟨rfl, he6, hF6⟩
                  clear hc
                  obtain ⟨r1, r2⟩ := Sort.pdq_sorts ltS swoS D4 (mid + 1) b' L true true (by omega) (by omega) q5
                  obtain ⟨r3, -⟩ := q7 _ r1 r2
                  have ed : decide (((l / 8 : Nat) : Int) ≤ ((b' - mid : Nat) : Int)) = decide (b' - mid ≥ (b' - a') / 8) := by rw [← hl]; exact decide_eq_decide.2 (by omega)
                  simp (disch := omega) only [go_sem, Nat.reduceEqDiff, Nat.reduceAdd, ↓reduceIte, get_pushB, get_putB, pickB_t, pickB_f, eqB_t, eqB_f, ltB_t, leB_t, AH.size_push, AH.size_put, AH.ro_push, AH.ro_put]
                  refine ih _ _ _ ?_ ⟨a', mid, L, decide (b' - mid ≥ (b' - a') / 8), ap, _, _, _, _, _, _, _, _, _, _, by omega, by omega, by omega, by omega, rfl, he6, r1.1.trans sD4, r3, pR.symm.trans hspec, hF5.trans hF6, by rw [← ed]⟩
                  omega
            · have hor : a' = 0 ∨ ltS D[a' - 1]! D[P]! = true := .inl (by omega)
              have heK := he4
              have hFK := hF4
              simp (disch := omega) only [go_sem, Nat.reduceEqDiff, Nat.reduceAdd, ↓reduceIte, get_pushB, get_putB, pickB_t, pickB_f, eqB_t, eqB_f, ltB_t, leB_t, AH.size_push, AH.size_put, AH.ro_push, AH.ro_put]
              have hpt := Sort.partition_holds ltS swoS D a' b' P hP1 hP2 (by omega)
              obtain ⟨q1, q2, q3, q4, q5, q6, q7⟩ := Sort.round_part swoS (Sort.partition_holds ltS) hP1 hP2 (by omega) hBD (show Sort.partition ltS D a' b' P = ((Sort.partition ltS D a' b' P).1, (Sort.partition ltS D a' b' P).2.1, (Sort.partition ltS D a' b' P).2.2) from rfl)
              have hc := partition_ok _ bx D a' b' P heK (by omega) (by omega) hP2
              rw [SV, sD] at hc
              refine callW_of hc ?_
              rintro r K5 ⟨rfl, he5, hF5⟩
              clear hc
              have hF5 := hFK.trans hF5
              have pL := @pdqL e D a' b' lim P L false wp (by omega) (by omega) hpi hPe hLe hor ⟨q1, q2⟩
              have pR := @pdqR e D a' b' lim P L false wp (by omega) (by omega) hpi hPe hLe hor ⟨q1, q2⟩
              obtain ⟨mid, hmid⟩ : ∃ m, m = (Sort.partition ltS D a' b' P).1 := ⟨_, rfl⟩
              obtain ⟨ap, hap⟩ : ∃ m, m = (Sort.partition ltS D a' b' P).2.1 := ⟨_, rfl⟩
              obtain ⟨D4, hD4⟩ : ∃ m, m = (Sort.partition ltS D a' b' P).2.2 := ⟨_, rfl⟩
              rw [← hmid, ← hap, ← hD4] at pL pR
              rw [← hmid] at q1 q2 q4 q5 q6 q7
              rw [← hD4] at q3 q4 q5 q6 q7 he5
              rw [← hmid, ← hap]
              have el1 : (mid : Int) - a' = ((mid - a' : Nat) : Int) := by omega
              have el2 : (b' : Int) - mid = ((b' - mid : Nat) : Int) := by omega
              have q8 : IntKind.i64.wrap ((l : Int).tdiv 8) = ((l / 8 : Nat) : Int) := by rw [IntWalk.i64_quo _ _ ⟨by omega, by omega, by omega⟩]; omega
              have sD4 : D4.size = d.size := by rw [q3, sD]
              simp (disch := omega) only [go_sem, Nat.reduceEqDiff, Nat.reduceAdd, ↓reduceIte, get_pushB, get_putB, pickB_t, pickB_f, eqB_t, eqB_f, ltB_t, leB_t, AH.size_push, AH.size_put, AH.ro_push, AH.ro_put, el1, el2, q8]
              refine ⟨by decide, Split.mk (fun m1 => ?_) (fun m1 => ?_)⟩
              · have pL := pL (by omega)
                have hc := IH (mid - a') (by omega) K5 bx D4 a' mid L (by omega) he5 (by have := hF5.ro; have := hF5.size; omega) q1 (by omega) (by omega) q4
                rw [SV, sD4] at hc
                simp (disch := omega) only [go_sem, Nat.reduceEqDiff, Nat.reduceAdd, ↓reduceIte, get_pushB, get_putB, pickB_t, pickB_f, eqB_t, eqB_f, ltB_t, leB_t, AH.size_push, AH.size_put, AH.ro_push, AH.ro_put]
                refine callW_of hc ?_
                rintro r K6 ⟨rfl, he6, hF6⟩
                clear hc
                obtain ⟨r1, r2⟩ := Sort.pdq_sorts ltS swoS D4 a' mid L true true q1 (by omega) q4
                obtain ⟨r3, -⟩ := q6 _ r1 r2
                have ed : decide (((l / 8 : Nat) : Int) ≤ ((mid - a' : Nat) : Int)) = decide (mid - a' ≥ (b' - a') / 8) := by rw [← hl]; exact decide_eq_decide.2 (by omega)
                simp (disch := omega) only [go_sem, Nat.reduceEqDiff, Nat.reduceAdd, ↓reduceIte, get_pushB, get_putB, pickB_t, pickB_f, eqB_t, eqB_f, ltB_t, leB_t, AH.size_push, AH.size_put, AH.ro_push, AH.ro_put]
                refine ih _ _ _ ?_ ⟨mid + 1, b', L, decide (mid - a' ≥ (b' - a') / 8), ap, _, _, _, _, _, _, _, _, _, _, by omega, by omega, by omega, by omega, rfl, he6, r1.1.trans sD4, r3, pL.symm.trans hspec, hF5.trans hF6, by rw [← ed]; simp only [Int.natCast_add]; rfl⟩
                omega
              · have pR := pR (by omega)
                have em : (mid : Int) + 1 = ((mid + 1 : Nat) : Int) := by omega
                have hc := IH (b' - (mid + 1)) (by omega) K5 bx D4 (mid + 1) b' L (by omega) he5 (by have := hF5.ro; have := hF5.size; omega) (by omega) (by omega) (by omega) q5
                rw [SV, sD4] at hc
                simp (disch := omega) only [go_sem, Nat.reduceEqDiff, Nat.reduceAdd, ↓reduceIte, get_pushB, get_putB, pickB_t, pickB_f, eqB_t, eqB_f, ltB_t, leB_t, AH.size_push, AH.size_put, AH.ro_push, AH.ro_put, em]
                refine callW_of hc ?_
                rintro r K6 ⟨rfl, he6, hF6⟩
                clear hc
                obtain ⟨r1, r2⟩ := Sort.pdq_sorts ltS swoS D4 (mid + 1) b' L true true (by omega) (by omega) q5
                obtain ⟨r3, -⟩ := q7 _ r1 r2
                have ed : decide (((l / 8 : Nat) : Int) ≤ ((b' - mid : Nat) : Int)) = decide (b' - mid ≥ (b' - a') / 8) := by rw [← hl]; exact decide_eq_decide.2 (by omega)
                simp (disch := omega) only [go_sem, Nat.reduceEqDiff, Nat.reduceAdd, ↓reduceIte, get_pushB, get_putB, pickB_t, pickB_f, eqB_t, eqB_f, ltB_t, leB_t, AH.size_push, AH.size_put, AH.ro_push, AH.ro_put]
                refine ih _ _ _ ?_ ⟨a', mid, L, decide (b' - mid ≥ (b' - a') / 8), ap, _, _, _, _, _, _, _, _, _, _, by omega, by omega, by omega, by omega, rfl, he6, r1.1.trans sD4, r3, pR.symm.trans hspec, hF5.trans hF6, by rw [← ed]⟩
                omega
          · have hc2 : (Sort.rd ltS e a' b' lim false wp).c.2 = .decreasing := by rw [hcd]; exact hh
            obtain ⟨g1, g2, g3⟩ := Sort.rd_dec hc2
            rw [hd1] at g1
            obtain ⟨D2, hD2⟩ : ∃ x, x = Sort.reverseRange D1 a' b' := ⟨_, rfl⟩
            have hd2 : (Sort.rd ltS e a' b' lim false wp).d2 = D2 := g1.trans hD2.symm
            have hhi := g3
            rw [hcd] at g2
            obtain ⟨P, hP⟩ : ∃ x, x = (b' - 1) - (C.1 - a') := ⟨_, rfl⟩
            have hPe : (Sort.rd ltS e a' b' lim false wp).pivot = P := g2.trans hP.symm
            rw [hPe] at f6
            obtain ⟨hP1, hP2⟩ := f6
            rw [hd2] at f4
            have s2 : D2.size = d.size := f4.trans hes
            have hc := reverse_ok K2 bx D1 a' b' he2 (by omega) (by omega)
            rw [SV, s1, ← hD2] at hc
            have eb1 : (b' : Int) - 1 = ((b' - 1 : Nat) : Int) := by omega
            have eb2 : (C.1 : Int) - a' = ((C.1 - a' : Nat) : Int) := by omega
            have eb3 : ((b' - 1 : Nat) : Int) - ((C.1 - a' : Nat) : Int) = (P : Int) := by omega
            refine Split.mk (fun _ => ?_) (fun u => absurd rfl u)
            simp (disch := omega) only [go_sem, Nat.reduceEqDiff, Nat.reduceAdd, ↓reduceIte, get_pushB, get_putB, pickB_t, pickB_f, eqB_t, eqB_f, ltB_t, leB_t, AH.size_push, AH.size_put, AH.ro_push, AH.ro_put]
            refine callW_of hc ?_
            rintro r K3 ⟨rfl, he3, hF3⟩
            clear hc
            have hF3 := hF2.trans hF3
            simp (disch := omega) only [go_sem, Nat.reduceEqDiff, Nat.reduceAdd, ↓reduceIte, get_pushB, get_putB, pickB_t, pickB_f, eqB_t, eqB_f, ltB_t, leB_t, AH.size_push, AH.size_put, AH.ro_push, AH.ro_put, eb1, eb2, eb3]
            have hpi0 : (Sort.rd ltS e a' b' lim false wp).pi = (D2, false) := by rw [Sort.rd_pi_no (by simp), hd2]
            obtain ⟨D, hD⟩ : ∃ x, x = D2 := ⟨_, rfl⟩
            rw [← hD] at hpi0
            have hpi := hpi0
            rw [hpi0] at f7 f8
            have hBD : Sort.Below ltS a' b' D := f8
            have sD : D.size = d.size := f7.trans hes
            have he4 : SpAt K3 bx D := by rw [hD]; exact he3
            have hF4 := hF3
            refine SplitG.mk (fun g1 => ?_) (fun g1 => ?_)
            · have ea : (a' : Int) - 1 = ((a' - 1 : Nat) : Int) := by omega
              have y1 := sp_ix bx d.size ((a' - 1 : Nat) : Int) (by omega) .i64
              have y2 := sp_ix bx d.size (P : Int) (by omega) .i64
              have z1 := sp_ld he4 ((a' - 1 : Nat) : Int) (by omega)
              have z2 := sp_ld he4 (P : Int) (by omega)
              simp only [Int.toNat_natCast] at z1 z2
              simp (disch := omega) only [go_sem, Nat.reduceEqDiff, Nat.reduceAdd, ↓reduceIte, get_pushB, get_putB, pickB_t, pickB_f, eqB_t, eqB_f, ltB_t, leB_t, AH.size_push, AH.size_put, AH.ro_push, AH.ro_put, ea, y1, y2, z1, z2]
              refine callW_of (cmp_ok _ _ _) ?_
              rintro r KD ⟨c, rfl, hcc, hc1, hc2, hE⟩
              have heK := he4.ext hE
              have hFK := hF4.trans (Fr.of_ext bx hE)
              simp (disch := omega) only [go_sem, Nat.reduceEqDiff, Nat.reduceAdd, ↓reduceIte, get_pushB, get_putB, pickB_t, pickB_f, eqB_t, eqB_f, ltB_t, leB_t, AH.size_push, AH.size_put, AH.ro_push, AH.ro_put]
              refine Split.mk (fun g2 => ?_) (fun g2 => ?_)
              · have hlt : ltS D[a' - 1]! D[P]! = false := by simp only [ltS, decide_eq_false_iff_not]; exact fun h => absurd (hcc.2 h) (by omega)
                obtain ⟨q1, q2, q3, q4, -⟩ := Sort.round_eq swoS (Sort.partitionEqual_holds ltS) (by omega) hP1 hP2 (by omega) hBD hlt (show Sort.partitionEqual ltS D a' b' P = ((Sort.partitionEqual ltS D a' b' P).1, (Sort.partitionEqual ltS D a' b' P).2) from rfl)
                have hc := partitionEqual_ok KD bx D a' b' P heK (by omega) (by omega) hP2
                rw [SV, sD] at hc
                simp (disch := omega) only [go_sem, Nat.reduceEqDiff, Nat.reduceAdd, ↓reduceIte, get_pushB, get_putB, pickB_t, pickB_f, eqB_t, eqB_f, ltB_t, leB_t, AH.size_push, AH.size_put, AH.ro_push, AH.ro_put]
                refine callW_of hc ?_
                rintro r K5 ⟨rfl, he5, hF5⟩
                clear hc
                rw [@pdqE e D a' b' lim P L false wp (by omega) (by omega) hpi hPe hLe (by omega) hlt ⟨q1, q2⟩] at hspec
                simp (disch := omega) only [go_sem, Nat.reduceEqDiff, Nat.reduceAdd, ↓reduceIte, get_pushB, get_putB, pickB_t, pickB_f, eqB_t, eqB_f, ltB_t, leB_t, AH.size_push, AH.size_put, AH.ro_push, AH.ro_put]
                refine ih _ _ _ ?_ ⟨_, b', L, false, wp, _, _, _, _, _, _, _, _, _, _, q2, by omega, by omega, by omega, rfl, he5, by rw [q3, sD], q4, hspec, hFK.trans hF5, rfl⟩
                omega
              · have hlt : ltS D[a' - 1]! D[P]! = true := by simp only [ltS, decide_eq_true_eq]; exact hcc.1 (by omega)
                have hor : a' = 0 ∨ ltS D[a' - 1]! D[P]! = true := .inr hlt
                simp (disch := omega) only [go_sem, Nat.reduceEqDiff, Nat.reduceAdd, ↓reduceIte, get_pushB, get_putB, pickB_t, pickB_f, eqB_t, eqB_f, ltB_t, leB_t, AH.size_push, AH.size_put, AH.ro_push, AH.ro_put]
                have hpt := Sort.partition_holds ltS swoS D a' b' P hP1 hP2 (by omega)
                obtain ⟨q1, q2, q3, q4, q5, q6, q7⟩ := Sort.round_part swoS (Sort.partition_holds ltS) hP1 hP2 (by omega) hBD (show Sort.partition ltS D a' b' P = ((Sort.partition ltS D a' b' P).1, (Sort.partition ltS D a' b' P).2.1, (Sort.partition ltS D a' b' P).2.2) from rfl)
                have hc := partition_ok KD bx D a' b' P heK (by omega) (by omega) hP2
                rw [SV, sD] at hc
                refine callW_of hc ?_
                rintro r K5 ⟨rfl, he5, hF5⟩
                clear hc
                have hF5 := hFK.trans hF5
                have pL := @pdqL e D a' b' lim P L false wp (by omega) (by omega) hpi hPe hLe hor ⟨q1, q2⟩
                have pR := @pdqR e D a' b' lim P L false wp (by omega) (by omega) hpi hPe hLe hor ⟨q1, q2⟩
                obtain ⟨mid, hmid⟩ : ∃ m, m = (Sort.partition ltS D a' b' P).1 := ⟨_, rfl⟩
                obtain ⟨ap, hap⟩ : ∃ m, m = (Sort.partition ltS D a' b' P).2.1 := ⟨_, rfl⟩
                obtain ⟨D4, hD4⟩ : ∃ m, m = (Sort.partition ltS D a' b' P).2.2 := ⟨_, rfl⟩
                rw [← hmid, ← hap, ← hD4] at pL pR
                rw [← hmid] at q1 q2 q4 q5 q6 q7
                rw [← hD4] at q3 q4 q5 q6 q7 he5
                rw [← hmid, ← hap]
                have el1 : (mid : Int) - a' = ((mid - a' : Nat) : Int) := by omega
                have el2 : (b' : Int) - mid = ((b' - mid : Nat) : Int) := by omega
                have q8 : IntKind.i64.wrap ((l : Int).tdiv 8) = ((l / 8 : Nat) : Int) := by rw [IntWalk.i64_quo _ _ ⟨by omega, by omega, by omega⟩]; omega
                have sD4 : D4.size = d.size := by rw [q3, sD]
                simp (disch := omega) only [go_sem, Nat.reduceEqDiff, Nat.reduceAdd, ↓reduceIte, get_pushB, get_putB, pickB_t, pickB_f, eqB_t, eqB_f, ltB_t, leB_t, AH.size_push, AH.size_put, AH.ro_push, AH.ro_put, el1, el2, q8]
                refine ⟨by decide, Split.mk (fun m1 => ?_) (fun m1 => ?_)⟩
                · have pL := pL (by omega)
                  have hc := IH (mid - a') (by omega) K5 bx D4 a' mid L (by omega) he5 (by have := hF5.ro; have := hF5.size; omega) q1 (by omega) (by omega) q4
                  rw [SV, sD4] at hc
                  simp (disch := omega) only [go_sem, Nat.reduceEqDiff, Nat.reduceAdd, ↓reduceIte, get_pushB, get_putB, pickB_t, pickB_f, eqB_t, eqB_f, ltB_t, leB_t, AH.size_push, AH.size_put, AH.ro_push, AH.ro_put]
                  refine callW_of hc ?_
                  rintro r K6 ⟨rfl, he6, hF6⟩
                  clear hc
                  obtain ⟨r1, r2⟩ := Sort.pdq_sorts ltS swoS D4 a' mid L true true q1 (by omega) q4
                  obtain ⟨r3, -⟩ := q6 _ r1 r2
                  have ed : decide (((l / 8 : Nat) : Int) ≤ ((mid - a' : Nat) : Int)) = decide (mid - a' ≥ (b' - a') / 8) := by rw [← hl]; exact decide_eq_decide.2 (by omega)
                  simp (disch := omega) only [go_sem, Nat.reduceEqDiff, Nat.reduceAdd, ↓reduceIte, get_pushB, get_putB, pickB_t, pickB_f, eqB_t, eqB_f, ltB_t, leB_t, AH.size_push, AH.size_put, AH.ro_push, AH.ro_put]
                  refine ih _ _ _ ?_ ⟨mid + 1, b', L, decide (mid - a' ≥ (b' - a') / 8), ap, _, _, _, _, _, _, _, _, _, _, by omega, by omega, by omega, by omega, rfl, he6, r1.1.trans sD4, r3, pL.symm.trans hspec, hF5.trans hF6, by rw [← ed]; simp only [Int.natCast_add]; rfl⟩
                  omega
                · have pR := pR (by omega)
                  have em : (mid : Int) + 1 = ((mid + 1 : Nat) : Int) := by omega
                  have hc := IH (b' - (mid + 1)) (by omega) K5 bx D4 (mid + 1) b' L (by omega) he5 (by have := hF5.ro; have := hF5.size; omega) (by omega) (by omega) (by omega) q5
                  rw [SV, sD4] at hc
                  simp (disch := omega) only [go_sem, Nat.reduceEqDiff, Nat.reduceAdd, ↓reduceIte, get_pushB, get_putB, pickB_t, pickB_f, eqB_t, eqB_f, ltB_t, leB_t, AH.size_push, AH.size_put, AH.ro_push, AH.ro_put, em]
                  refine callW_of hc ?_
                  rintro r K6 ⟨rfl, he6, hF6⟩
                  clear hc
                  obtain ⟨r1, r2⟩ := Sort.pdq_sorts ltS swoS D4 (mid + 1) b' L true true (by omega) (by omega) q5
                  obtain ⟨r3, -⟩ := q7 _ r1 r2
                  have ed : decide (((l / 8 : Nat) : Int) ≤ ((b' - mid : Nat) : Int)) = decide (b' - mid ≥ (b' - a') / 8) := by rw [← hl]; exact decide_eq_decide.2 (by omega)
                  simp (disch := omega) only [go_sem, Nat.reduceEqDiff, Nat.reduceAdd, ↓reduceIte, get_pushB, get_putB, pickB_t, pickB_f, eqB_t, eqB_f, ltB_t, leB_t, AH.size_push, AH.size_put, AH.ro_push, AH.ro_put]
                  refine ih _ _ _ ?_ ⟨a', mid, L, decide (b' - mid ≥ (b' - a') / 8), ap, _, _, _, _, _, _, _, _, _, _, by omega, by omega, by omega, by omega, rfl, he6, r1.1.trans sD4, r3, pR.symm.trans hspec, hF5.trans hF6, by rw [← ed]⟩
                  omega
            · have hor : a' = 0 ∨ ltS D[a' - 1]! D[P]! = true := .inl (by omega)
              have heK := he4
              have hFK := hF4
              simp (disch := omega) only [go_sem, Nat.reduceEqDiff, Nat.reduceAdd, ↓reduceIte, get_pushB, get_putB, pickB_t, pickB_f, eqB_t, eqB_f, ltB_t, leB_t, AH.size_push, AH.size_put, AH.ro_push, AH.ro_put]
              have hpt := Sort.partition_holds ltS swoS D a' b' P hP1 hP2 (by omega)
              obtain ⟨q1, q2, q3, q4, q5, q6, q7⟩ := Sort.round_part swoS (Sort.partition_holds ltS) hP1 hP2 (by omega) hBD (show Sort.partition ltS D a' b' P = ((Sort.partition ltS D a' b' P).1, (Sort.partition ltS D a' b' P).2.1, (Sort.partition ltS D a' b' P).2.2) from rfl)
              have hc := partition_ok _ bx D a' b' P heK (by omega) (by omega) hP2
              rw [SV, sD] at hc
              refine callW_of hc ?_
              rintro r K5 ⟨rfl, he5, hF5⟩
              clear hc
              have hF5 := hFK.trans hF5
              have pL := @pdqL e D a' b' lim P L false wp (by omega) (by omega) hpi hPe hLe hor ⟨q1, q2⟩
              have pR := @pdqR e D a' b' lim P L false wp (by omega) (by omega) hpi hPe hLe hor ⟨q1, q2⟩
              obtain ⟨mid, hmid⟩ : ∃ m, m = (Sort.partition ltS D a' b' P).1 := ⟨_, rfl⟩
              obtain ⟨ap, hap⟩ : ∃ m, m = (Sort.partition ltS D a' b' P).2.1 := ⟨_, rfl⟩
              obtain ⟨D4, hD4⟩ : ∃ m, m = (Sort.partition ltS D a' b' P).2.2 := ⟨_, rfl⟩
              rw [← hmid, ← hap, ← hD4] at pL pR
              rw [← hmid] at q1 q2 q4 q5 q6 q7
              rw [← hD4] at q3 q4 q5 q6 q7 he5
              rw [← hmid, ← hap]
              have el1 : (mid : Int) - a' = ((mid - a' : Nat) : Int) := by omega
              have el2 : (b' : Int) - mid = ((b' - mid : Nat) : Int) := by omega
              have q8 : IntKind.i64.wrap ((l : Int).tdiv 8) = ((l / 8 : Nat) : Int) := by rw [IntWalk.i64_quo _ _ ⟨by omega, by omega, by omega⟩]; omega
              have sD4 : D4.size = d.size := by rw [q3, sD]
              simp (disch := omega) only [go_sem, Nat.reduceEqDiff, Nat.reduceAdd, ↓reduceIte, get_pushB, get_putB, pickB_t, pickB_f, eqB_t, eqB_f, ltB_t, leB_t, AH.size_push, AH.size_put, AH.ro_push, AH.ro_put, el1, el2, q8]
              refine ⟨by decide, Split.mk (fun m1 => ?_) (fun m1 => ?_)⟩
              · have pL := pL (by omega)
                have hc := IH (mid - a') (by omega) K5 bx D4 a' mid L (by omega) he5 (by have := hF5.ro; have := hF5.size; omega) q1 (by omega) (by omega) q4
                rw [SV, sD4] at hc
                simp (disch := omega) only [go_sem, Nat.reduceEqDiff, Nat.reduceAdd, ↓reduceIte, get_pushB, get_putB, pickB_t, pickB_f, eqB_t, eqB_f, ltB_t, leB_t, AH.size_push, AH.size_put, AH.ro_push, AH.ro_put]
                refine callW_of hc ?_
                rintro r K6 ⟨rfl, he6, hF6⟩
                clear hc
                obtain ⟨r1, r2⟩ := Sort.pdq_sorts ltS swoS D4 a' mid L true true q1 (by omega) q4
                obtain ⟨r3, -⟩ := q6 _ r1 r2
                have ed : decide (((l / 8 : Nat) : Int) ≤ ((mid - a' : Nat) : Int)) = decide (mid - a' ≥ (b' - a') / 8) := by rw [← hl]; exact decide_eq_decide.2 (by omega)
                simp (disch := omega) only [go_sem, Nat.reduceEqDiff, Nat.reduceAdd, ↓reduceIte, get_pushB, get_putB, pickB_t, pickB_f, eqB_t, eqB_f, ltB_t, leB_t, AH.size_push, AH.size_put, AH.ro_push, AH.ro_put]
                refine ih _ _ _ ?_ ⟨mid + 1, b', L, decide (mid - a' ≥ (b' - a') / 8), ap, _, _, _, _, _, _, _, _, _, _, by omega, by omega, by omega, by omega, rfl, he6, r1.1.trans sD4, r3, pL.symm.trans hspec, hF5.trans hF6, by rw [← ed]; simp only [Int.natCast_add]; rfl⟩
                omega
              · have pR := pR (by omega)
                have em : (mid : Int) + 1 = ((mid + 1 : Nat) : Int) := by omega
                have hc := IH (b' - (mid + 1)) (by omega) K5 bx D4 (mid + 1) b' L (by omega) he5 (by have := hF5.ro; have := hF5.size; omega) (by omega) (by omega) (by omega) q5
                rw [SV, sD4] at hc
                simp (disch := omega) only [go_sem, Nat.reduceEqDiff, Nat.reduceAdd, ↓reduceIte, get_pushB, get_putB, pickB_t, pickB_f, eqB_t, eqB_f, ltB_t, leB_t, AH.size_push, AH.size_put, AH.ro_push, AH.ro_put, em]
                refine callW_of hc ?_
                rintro r K6 ⟨rfl, he6, hF6⟩
                clear hc
                obtain ⟨r1, r2⟩ := Sort.pdq_sorts ltS swoS D4 (mid + 1) b' L true true (by omega) (by omega) q5
                obtain ⟨r3, -⟩ := q7 _ r1 r2
                have ed : decide (((l / 8 : Nat) : Int) ≤ ((b' - mid : Nat) : Int)) = decide (b' - mid ≥ (b' - a') / 8) := by rw [← hl]; exact decide_eq_decide.2 (by omega)
                simp (disch := omega) only [go_sem, Nat.reduceEqDiff, Nat.reduceAdd, ↓reduceIte, get_pushB, get_putB, pickB_t, pickB_f, eqB_t, eqB_f, ltB_t, leB_t, AH.size_push, AH.size_put, AH.ro_push, AH.ro_put]
                refine ih _ _ _ ?_ ⟨a', mid, L, decide (b' - mid ≥ (b' - a') / 8), ap, _, _, _, _, _, _, _, _, _, _, by omega, by omega, by omega, by omega, rfl, he6, r1.1.trans sD4, r3, pR.symm.trans hspec, hF5.trans hF6, by rw [← ed]⟩
                omega
        · have he1 := he
          have hF1 := hF
          obtain ⟨D1, hD1⟩ : ∃ x, x = e := ⟨_, rfl⟩
          have hLe : (Sort.rd ltS e a' b' lim true wp).lim = lim := rfl
          have hd1 : (Sort.rd ltS e a' b' lim true wp).d1 = D1 := hD1.symm
          rw [← hD1] at he1
          obtain ⟨f1, f2, f3, f4, f5, f6, f7, f8⟩ := hrf true wp
          have hcd := @Sort.rd_c Sp _ ltS e a' b' lim true wp
          rw [hd1] at f1 hcd
          have s1 : D1.size = d.size := f1.trans hes
          have hc := choose_ok K bx D1 a' b' he1 (by have := hF1.ro; have := hF1.size; omega) (by omega) (by omega)
          rw [SV, s1] at hc
          simp (disch := omega) only [go_sem, Nat.reduceEqDiff, Nat.reduceAdd, ↓reduceIte, get_pushB, get_putB, pickB_t, pickB_f, eqB_t, eqB_f, ltB_t, leB_t, AH.size_push, AH.size_put, AH.ro_push, AH.ro_put]
          refine callW_of hc ?_
          rintro r K2 ⟨rfl, he2, hE2⟩
          clear hc
          have hF2 := hF1.trans (Fr.of_ext bx hE2)
          rw [hcd] at f3
          obtain ⟨C, hC⟩ : ∃ x, x = Sort.choosePivot ltS D1 a' b' := ⟨_, rfl⟩
          rw [← hC] at f3 hcd ⊢
          simp (disch := omega) only [go_sem, Nat.reduceEqDiff, Nat.reduceAdd, ↓reduceIte, get_pushB, get_putB, pickB_t, pickB_f, eqB_t, eqB_f, ltB_t, leB_t, AH.size_push, AH.size_put, AH.ro_push, AH.ro_put]
          cases wp
          · rcases hh : C.2 with _ | _ | _
            · have hc2 : (Sort.rd ltS e a' b' lim true false).c.2 = .unknown := by rw [hcd]; exact hh
              obtain ⟨g1, g2, g3⟩ := Sort.rd_not (show (Sort.rd ltS e a' b' lim true false).c.2 ≠ .decreasing by rw [hc2]; decide)
              rw [hd1] at g1
              obtain ⟨D2, hD2⟩ : ∃ x, x = D1 := ⟨_, rfl⟩
              have hd2 : (Sort.rd ltS e a' b' lim true false).d2 = D2 := g1.trans hD2.symm
              have hhi : (Sort.rd ltS e a' b' lim true false).hint = .unknown := g3.trans hc2
              rw [hcd] at g2
              obtain ⟨P, hP⟩ : ∃ x, x = C.1 := ⟨_, rfl⟩
              have hPe : (Sort.rd ltS e a' b' lim true false).pivot = P := g2.trans hP.symm
              rw [hPe] at f6
              obtain ⟨hP1, hP2⟩ := f6
              rw [hd2] at f4
              have s2 : D2.size = d.size := f4.trans hes
              have he3 : SpAt K2 bx D2 := by rw [hD2]; exact he2
              rw [← hP]
              refine Split.mk (fun u => absurd u (by decide)) (fun _ => ?_)
              simp (disch := omega) only [go_sem, Nat.reduceEqDiff, Nat.reduceAdd, ↓reduceIte, get_pushB, get_putB, pickB_t, pickB_f, eqB_t, eqB_f, ltB_t, leB_t, AH.size_push, AH.size_put, AH.ro_push, AH.ro_put]
              have hpi0 : (Sort.rd ltS e a' b' lim true false).pi = (D2, false) := by rw [Sort.rd_pi_no (by simp), hd2]
              obtain ⟨D, hD⟩ : ∃ x, x = D2 := ⟨_, rfl⟩
              rw [← hD] at hpi0
              have hpi := hpi0
              rw [hpi0] at f7 f8
              have hBD : Sort.Below ltS a' b' D := f8
              have sD : D.size = d.size := f7.trans hes
              have he4 : SpAt K2 bx D := by rw [hD]; exact he3
              have hF4 := hF2
              refine SplitG.mk (fun g1 => ?_) (fun g1 => ?_)
              · have ea : (a' : Int) - 1 = ((a' - 1 : Nat) : Int) := by omega
                have y1 := sp_ix bx d.size ((a' - 1 : Nat) : Int) (by omega) .i64
                have y2 := sp_ix bx d.size (P : Int) (by omega) .i64
                have z1 := sp_ld he4 ((a' - 1 : Nat) : Int) (by omega)
                have z2 := sp_ld he4 (P : Int) (by omega)
                simp only [Int.toNat_natCast] at z1 z2
                simp (disch := omega) only [go_sem, Nat.reduceEqDiff, Nat.reduceAdd, ↓reduceIte, get_pushB, get_putB, pickB_t, pickB_f, eqB_t, eqB_f, ltB_t, leB_t, AH.size_push, AH.size_put, AH.ro_push, AH.ro_put, ea, y1, y2, z1, z2]
                refine callW_of (cmp_ok _ _ _) ?_
                rintro r KD ⟨c, rfl, hcc, hc1, hc2, hE⟩
                have heK := he4.ext hE
                have hFK := hF4.trans (Fr.of_ext bx hE)
                simp (disch := omega) only [go_sem, Nat.reduceEqDiff, Nat.reduceAdd, ↓reduceIte, get_pushB, get_putB, pickB_t, pickB_f, eqB_t, eqB_f, ltB_t, leB_t, AH.size_push, AH.size_put, AH.ro_push, AH.ro_put]
                refine Split.mk (fun g2 => ?_) (fun g2 => ?_)
                · have hlt : ltS D[a' - 1]! D[P]! = false := by simp only [ltS, decide_eq_false_iff_not]; exact fun h => absurd (hcc.2 h) (by omega)
                  obtain ⟨q1, q2, q3, q4, -⟩ := Sort.round_eq swoS (Sort.partitionEqual_holds ltS) (by omega) hP1 hP2 (by omega) hBD hlt (show Sort.partitionEqual ltS D a' b' P = ((Sort.partitionEqual ltS D a' b' P).1, (Sort.partitionEqual ltS D a' b' P).2) from rfl)
                  have hc := partitionEqual_ok KD bx D a' b' P heK (by omega) (by omega) hP2
                  rw [SV, sD] at hc
                  simp (disch := omega) only [go_sem, Nat.reduceEqDiff, Nat.reduceAdd, ↓reduceIte, get_pushB, get_putB, pickB_t, pickB_f, eqB_t, eqB_f, ltB_t, leB_t, AH.size_push, AH.size_put, AH.ro_push, AH.ro_put]
                  refine callW_of hc ?_
                  rintro r K5 ⟨rfl, he5, hF5⟩
                  clear hc
                  rw [@pdqE e D a' b' lim P lim true false (by omega) (by omega) hpi hPe hLe (by omega) hlt ⟨q1, q2⟩] at hspec
                  simp (disch := omega) only [go_sem, Nat.reduceEqDiff, Nat.reduceAdd, ↓reduceIte, get_pushB, get_putB, pickB_t, pickB_f, eqB_t, eqB_f, ltB_t, leB_t, AH.size_push, AH.size_put, AH.ro_push, AH.ro_put]
                  refine ih _ _ _ ?_ ⟨_, b', lim, true, false, _, _, _, _, _, _, _, _, _, _, q2, by omega, by omega, by omega, rfl, he5, by rw [q3, sD], q4, hspec, hFK.trans hF5, rfl⟩
                  omega
                · have hlt : ltS D[a' - 1]! D[P]! = true := by simp only [ltS, decide_eq_true_eq]; exact hcc.1 (by omega)
                  have hor : a' = 0 ∨ ltS D[a' - 1]! D[P]! = true := .inr hlt
                  simp (disch := omega) only [go_sem, Nat.reduceEqDiff, Nat.reduceAdd, ↓reduceIte, get_pushB, get_putB, pickB_t, pickB_f, eqB_t, eqB_f, ltB_t, leB_t, AH.size_push, AH.size_put, AH.ro_push, AH.ro_put]
                  have hpt := Sort.partition_holds ltS swoS D a' b' P hP1 hP2 (by omega)
                  obtain ⟨q1, q2, q3, q4, q5, q6, q7⟩ := Sort.round_part swoS (Sort.partition_holds ltS) hP1 hP2 (by omega) hBD (show Sort.partition ltS D a' b' P = ((Sort.partition ltS D a' b' P).1, (Sort.partition ltS D a' b' P).2.1, (Sort.partition ltS D a' b' P).2.2) from rfl)
                  have hc := partition_ok KD bx D a' b' P heK (by omega) (by omega) hP2
                  rw [SV, sD] at hc
                  refine callW_of hc ?_
                  rintro r K5 ⟨rfl, he5, hF5⟩
                  clear hc
                  have hF5 := hFK.trans hF5
                  have pL := @pdqL e D a' b' lim P lim true false (by omega) (by omega) hpi hPe hLe hor ⟨q1, q2⟩
                  have pR := @pdqR e D a' b' lim P lim true false (by omega) (by omega) hpi hPe hLe hor ⟨q1, q2⟩
                  obtain ⟨mid, hmid⟩ : ∃ m, m = (Sort.partition ltS D a' b' P).1 := ⟨_, rfl⟩
                  obtain ⟨ap, hap⟩ : ∃ m, m = (Sort.partition ltS D a' b' P).2.1 := ⟨_, rfl⟩
                  obtain ⟨D4, hD4⟩ : ∃ m, m = (Sort.partition ltS D a' b' P).2.2 := ⟨_, rfl⟩
                  rw [← hmid, ← hap, ← hD4] at pL pR
                  rw [← hmid] at q1 q2 q4 q5 q6 q7
                  rw [← hD4] at q3 q4 q5 q6 q7 he5
                  rw [← hmid, ← hap]
                  have el1 : (mid : Int) - a' = ((mid - a' : Nat) : Int) := by omega
                  have el2 : (b' : Int) - mid = ((b' - mid : Nat) : Int) := by omega
                  have q8 : IntKind.i64.wrap ((l : Int).tdiv 8) = ((l / 8 : Nat) : Int) := by rw [IntWalk.i64_quo _ _ ⟨by omega, by omega, by omega⟩]; omega
                  have sD4 : D4.size = d.size := by rw [q3, sD]
                  simp (disch := omega) only [go_sem, Nat.reduceEqDiff, Nat.reduceAdd, ↓reduceIte, get_pushB, get_putB, pickB_t, pickB_f, eqB_t, eqB_f, ltB_t, leB_t, AH.size_push, AH.size_put, AH.ro_push, AH.ro_put, el1, el2, q8]
                  refine ⟨by decide, Split.mk (fun m1 => ?_) (fun m1 => ?_)⟩
                  · have pL := pL (by omega)
                    have hc := IH (mid - a') (by omega) K5 bx D4 a' mid lim (by omega) he5 (by have := hF5.ro; have := hF5.size; omega) q1 (by omega) (by omega) q4
                    rw [SV, sD4] at hc
                    simp (disch := omega) only [go_sem, Nat.reduceEqDiff, Nat.reduceAdd, ↓reduceIte, get_pushB, get_putB, pickB_t, pickB_f, eqB_t, eqB_f, ltB_t, leB_t, AH.size_push, AH.size_put, AH.ro_push, AH.ro_put]
                    refine callW_of hc ?_
                    rintro r K6 ⟨rfl, he6, hF6⟩
                    clear hc
                    obtain ⟨r1, r2⟩ := Sort.pdq_sorts ltS swoS D4 a' mid lim true true q1 (by omega) q4
                    obtain ⟨r3, -⟩ := q6 _ r1 r2
                    have ed : decide (((l / 8 : Nat) : Int) ≤ ((mid - a' : Nat) : Int)) = decide (mid - a' ≥ (b' - a') / 8) := by rw [← hl]; exact decide_eq_decide.2 (by omega)
                    simp (disch := omega) only [go_sem, Nat.reduceEqDiff, Nat.reduceAdd, ↓reduceIte, get_pushB, get_putB, pickB_t, pickB_f, eqB_t, eqB_f, ltB_t, leB_t, AH.size_push, AH.size_put, AH.ro_push, AH.ro_put]
                    refine ih _ _ _ ?_ ⟨mid + 1, b', lim, decide (mid - a' ≥ (b' - a') / 8), ap, _, _, _, _, _, _, _, _, _, _, by omega, by omega, by omega, by omega, rfl, he6, r1.1.trans sD4, r3, pL.symm.trans hspec, hF5.trans hF6, by rw [← ed]; simp only [Int.natCast_add]; rfl⟩
                    omega
                  · have pR := pR (by omega)
                    have em : (mid : Int) + 1 = ((mid + 1 : Nat) : Int) := by omega
                    have hc := IH (b' - (mid + 1)) (by omega) K5 bx D4 (mid + 1) b' lim (by omega) he5 (by have := hF5.ro; have := hF5.size; omega) (by omega) (by omega) (by omega) q5
                    rw [SV, sD4] at hc
                    simp (disch := omega) only [go_sem, Nat.reduceEqDiff, Nat.reduceAdd, ↓reduceIte, get_pushB, get_putB, pickB_t, pickB_f, eqB_t, eqB_f, ltB_t, leB_t, AH.size_push, AH.size_put, AH.ro_push, AH.ro_put, em]
                    refine callW_of hc ?_
                    rintro r K6 ⟨rfl, he6, hF6⟩
                    clear hc
                    obtain ⟨r1, r2⟩ := Sort.pdq_sorts ltS swoS D4 (mid + 1) b' lim true true (by omega) (by omega) q5
                    obtain ⟨r3, -⟩ := q7 _ r1 r2
                    have ed : decide (((l / 8 : Nat) : Int) ≤ ((b' - mid : Nat) : Int)) = decide (b' - mid ≥ (b' - a') / 8) := by rw [← hl]; exact decide_eq_decide.2 (by omega)
                    simp (disch := omega) only [go_sem, Nat.reduceEqDiff, Nat.reduceAdd, ↓reduceIte, get_pushB, get_putB, pickB_t, pickB_f, eqB_t, eqB_f, ltB_t, leB_t, AH.size_push, AH.size_put, AH.ro_push, AH.ro_put]
                    refine ih _ _ _ ?_ ⟨a', mid, lim, decide (b' - mid ≥ (b' - a') / 8), ap, _, _, _, _, _, _, _, _, _, _, by omega, by omega, by omega, by omega, rfl, he6, r1.1.trans sD4, r3, pR.symm.trans hspec, hF5.trans hF6, by rw [← ed]⟩
                    omega
              · have hor : a' = 0 ∨ ltS D[a' - 1]! D[P]! = true := .inl (by omega)
                have heK := he4
                have hFK := hF4
                simp (disch := omega) only [go_sem, Nat.reduceEqDiff, Nat.reduceAdd, ↓reduceIte, get_pushB, get_putB, pickB_t, pickB_f, eqB_t, eqB_f, ltB_t, leB_t, AH.size_push, AH.size_put, AH.ro_push, AH.ro_put]
                have hpt := Sort.partition_holds ltS swoS D a' b' P hP1 hP2 (by omega)
                obtain ⟨q1, q2, q3, q4, q5, q6, q7⟩ := Sort.round_part swoS (Sort.partition_holds ltS) hP1 hP2 (by omega) hBD (show Sort.partition ltS D a' b' P = ((Sort.partition ltS D a' b' P).1, (Sort.partition ltS D a' b' P).2.1, (Sort.partition ltS D a' b' P).2.2) from rfl)
                have hc := partition_ok _ bx D a' b' P heK (by omega) (by omega) hP2
                rw [SV, sD] at hc
                refine callW_of hc ?_
                rintro r K5 ⟨rfl, he5, hF5⟩
                clear hc
                have hF5 := hFK.trans hF5
                have pL := @pdqL e D a' b' lim P lim true false (by omega) (by omega) hpi hPe hLe hor ⟨q1, q2⟩
                have pR := @pdqR e D a' b' lim P lim true false (by omega) (by omega) hpi hPe hLe hor ⟨q1, q2⟩
                obtain ⟨mid, hmid⟩ : ∃ m, m = (Sort.partition ltS D a' b' P).1 := ⟨_, rfl⟩
                obtain ⟨ap, hap⟩ : ∃ m, m = (Sort.partition ltS D a' b' P).2.1 := ⟨_, rfl⟩
                obtain ⟨D4, hD4⟩ : ∃ m, m = (Sort.partition ltS D a' b' P).2.2 := ⟨_, rfl⟩
                rw [← hmid, ← hap, ← hD4] at pL pR
                rw [← hmid] at q1 q2 q4 q5 q6 q7
                rw [← hD4] at q3 q4 q5 q6 q7 he5
                rw [← hmid, ← hap]
                have el1 : (mid : Int) - a' = ((mid - a' : Nat) : Int) := by omega
                have el2 : (b' : Int) - mid = ((b' - mid : Nat) : Int) := by omega
                have q8 : IntKind.i64.wrap ((l : Int).tdiv 8) = ((l / 8 : Nat) : Int) := by rw [IntWalk.i64_quo _ _ ⟨by omega, by omega, by omega⟩]; omega
                have sD4 : D4.size = d.size := by rw [q3, sD]
                simp (disch := omega) only [go_sem, Nat.reduceEqDiff, Nat.reduceAdd, ↓reduceIte, get_pushB, get_putB, pickB_t, pickB_f, eqB_t, eqB_f, ltB_t, leB_t, AH.size_push, AH.size_put, AH.ro_push, AH.ro_put, el1, el2, q8]
                refine ⟨by decide, Split.mk (fun m1 => ?_) (fun m1 => ?_)⟩
                · have pL := pL (by omega)
                  have hc := IH (mid - a') (by omega) K5 bx D4 a' mid lim (by omega) he5 (by have := hF5.ro; have := hF5.size; omega) q1 (by omega) (by omega) q4
                  rw [SV, sD4] at hc
                  simp (disch := omega) only [go_sem, Nat.reduceEqDiff, Nat.reduceAdd, ↓reduceIte, get_pushB, get_putB, pickB_t, pickB_f, eqB_t, eqB_f, ltB_t, leB_t, AH.size_push, AH.size_put, AH.ro_push, AH.ro_put]
                  refine callW_of hc ?_
                  rintro r K6 ⟨rfl, he6, hF6⟩
                  clear hc
                  obtain ⟨r1, r2⟩ := Sort.pdq_sorts ltS swoS D4 a' mid lim true true q1 (by omega) q4
                  obtain ⟨r3, -⟩ := q6 _ r1 r2
                  have ed : decide (((l / 8 : Nat) : Int) ≤ ((mid - a' : Nat) : Int)) = decide (mid - a' ≥ (b' - a') / 8) := by rw [← hl]; exact decide_eq_decide.2 (by omega)
                  simp (disch := omega) only [go_sem, Nat.reduceEqDiff, Nat.reduceAdd, ↓reduceIte, get_pushB, get_putB, pickB_t, pickB_f, eqB_t, eqB_f, ltB_t, leB_t, AH.size_push, AH.size_put, AH.ro_push, AH.ro_put]
                  refine ih _ _ _ ?_ ⟨mid + 1, b', lim, decide (mid - a' ≥ (b' - a') / 8), ap, _, _, _, _, _, _, _, _, _, _, by omega, by omega, by omega, by omega, rfl, he6, r1.1.trans sD4, r3, pL.symm.trans hspec, hF5.trans hF6, by rw [← ed]; simp only [Int.natCast_add]; rfl⟩
                  omega
                · have pR := pR (by omega)
                  have em : (mid : Int) + 1 = ((mid + 1 : Nat) : Int) := by omega
                  have hc := IH (b' - (mid + 1)) (by omega) K5 bx D4 (mid + 1) b' lim (by omega) he5 (by have := hF5.ro; have := hF5.size; omega) (by omega) (by omega) (by omega) q5
                  rw [SV, sD4] at hc
                  simp (disch := omega) only [go_sem, Nat.reduceEqDiff, Nat.reduceAdd, ↓reduceIte, get_pushB, get_putB, pickB_t, pickB_f, eqB_t, eqB_f, ltB_t, leB_t, AH.size_push, AH.size_put, AH.ro_push, AH.ro_put, em]
                  refine callW_of hc ?_
                  rintro r K6 ⟨rfl, he6, hF6⟩
                  clear hc
                  obtain ⟨r1, r2⟩ := Sort.pdq_sorts ltS swoS D4 (mid + 1) b' lim true true (by omega) (by omega) q5
                  obtain ⟨r3, -⟩ := q7 _ r1 r2
                  have ed : decide (((l / 8 : Nat) : Int) ≤ ((b' - mid : Nat) : Int)) = decide (b' - mid ≥ (b' - a') / 8) := by rw [← hl]; exact decide_eq_decide.2 (by omega)
                  simp (disch := omega) only [go_sem, Nat.reduceEqDiff, Nat.reduceAdd, ↓reduceIte, get_pushB, get_putB, pickB_t, pickB_f, eqB_t, eqB_f, ltB_t, leB_t, AH.size_push, AH.size_put, AH.ro_push, AH.ro_put]
                  refine ih _ _ _ ?_ ⟨a', mid, lim, decide (b' - mid ≥ (b' - a') / 8), ap, _, _, _, _, _, _, _, _, _, _, by omega, by omega, by omega, by omega, rfl, he6, r1.1.trans sD4, r3, pR.symm.trans hspec, hF5.trans hF6, by rw [← ed]⟩
                  omega
            · have hc2 : (Sort.rd ltS e a' b' lim true false).c.2 = .increasing := by rw [hcd]; exact hh
              obtain ⟨g1, g2, g3⟩ := Sort.rd_not (show (Sort.rd ltS e a' b' lim true false).c.2 ≠ .decreasing by rw [hc2]; decide)
              rw [hd1] at g1
              obtain ⟨D2, hD2⟩ : ∃ x, x = D1 := ⟨_, rfl⟩
              have hd2 : (Sort.rd ltS e a' b' lim true false).d2 = D2 := g1.trans hD2.symm
              have hhi : (Sort.rd ltS e a' b' lim true false).hint = .increasing := g3.trans hc2
              rw [hcd] at g2
              obtain ⟨P, hP⟩ : ∃ x, x = C.1 := ⟨_, rfl⟩
              have hPe : (Sort.rd ltS e a' b' lim true false).pivot = P := g2.trans hP.symm
              rw [hPe] at f6
              obtain ⟨hP1, hP2⟩ := f6
              rw [hd2] at f4
              have s2 : D2.size = d.size := f4.trans hes
              have he3 : SpAt K2 bx D2 := by rw [hD2]; exact he2
              rw [← hP]
              refine Split.mk (fun u => absurd u (by decide)) (fun _ => ?_)
              simp (disch := omega) only [go_sem, Nat.reduceEqDiff, Nat.reduceAdd, ↓reduceIte, get_pushB, get_putB, pickB_t, pickB_f, eqB_t, eqB_f, ltB_t, leB_t, AH.size_push, AH.size_put, AH.ro_push, AH.ro_put]
              have hpi0 : (Sort.rd ltS e a' b' lim true false).pi = (D2, false) := by rw [Sort.rd_pi_no (by simp), hd2]
              obtain ⟨D, hD⟩ : ∃ x, x = D2 := ⟨_, rfl⟩
              rw [← hD] at hpi0
              have hpi := hpi0
              rw [hpi0] at f7 f8
              have hBD : Sort.Below ltS a' b' D := f8
              have sD : D.size = d.size := f7.trans hes
              have he4 : SpAt K2 bx D := by rw [hD]; exact he3
              have hF4 := hF2
              refine SplitG.mk (fun g1 => ?_) (fun g1 => ?_)
              · have ea : (a' : Int) - 1 = ((a' - 1 : Nat) : Int) := by omega
                have y1 := sp_ix bx d.size ((a' - 1 : Nat) : Int) (by omega) .i64
                have y2 := sp_ix bx d.size (P : Int) (by omega) .i64
                have z1 := sp_ld he4 ((a' - 1 : Nat) : Int) (by omega)
                have z2 := sp_ld he4 (P : Int) (by omega)
                simp only [Int.toNat_natCast] at z1 z2
                simp (disch := omega) only [go_sem, Nat.reduceEqDiff, Nat.reduceAdd, ↓reduceIte, get_pushB, get_putB, pickB_t, pickB_f, eqB_t, eqB_f, ltB_t, leB_t, AH.size_push, AH.size_put, AH.ro_push, AH.ro_put, ea, y1, y2, z1, z2]
                refine callW_of (cmp_ok _ _ _) ?_
                rintro r KD ⟨c, rfl, hcc, hc1, hc2, hE⟩
                have heK := he4.ext hE
                have hFK := hF4.trans (Fr.of_ext bx hE)
                simp (disch := omega) only [go_sem, Nat.reduceEqDiff, Nat.reduceAdd, ↓reduceIte, get_pushB, get_putB, pickB_t, pickB_f, eqB_t, eqB_f, ltB_t, leB_t, AH.size_push, AH.size_put, AH.ro_push, AH.ro_put]
                refine Split.mk (fun g2 => ?_) (fun g2 => ?_)
                · have hlt : ltS D[a' - 1]! D[P]! = false := by simp only [ltS, decide_eq_false_iff_not]; exact fun h => absurd (hcc.2 h) (by omega)
                  obtain ⟨q1, q2, q3, q4, -⟩ := Sort.round_eq swoS (Sort.partitionEqual_holds ltS) (by omega) hP1 hP2 (by omega) hBD hlt (show Sort.partitionEqual ltS D a' b' P = ((Sort.partitionEqual ltS D a' b' P).1, (Sort.partitionEqual ltS D a' b' P).2) from rfl)
                  have hc := partitionEqual_ok KD bx D a' b' P heK (by omega) (by omega) hP2
                  rw [SV, sD] at hc
                  simp (disch := omega) only [go_sem, Nat.reduceEqDiff, Nat.reduceAdd, ↓reduceIte, get_pushB, get_putB, pickB_t, pickB_f, eqB_t, eqB_f, ltB_t, leB_t, AH.size_push, AH.size_put, AH.ro_push, AH.ro_put]
                  refine callW_of hc ?_
                  rintro r K5 ⟨rfl, he5, hF5⟩
                  clear hc
                  rw [@pdqE e D a' b' lim P lim true false (by omega) (by omega) hpi hPe hLe (by omega) hlt ⟨q1, q2⟩] at hspec
                  simp (disch := omega) only [go_sem, Nat.reduceEqDiff, Nat.reduceAdd, ↓reduceIte, get_pushB, get_putB, pickB_t, pickB_f, eqB_t, eqB_f, ltB_t, leB_t, AH.size_push, AH.size_put, AH.ro_push, AH.ro_put]
                  refine ih _ _ _ ?_ ⟨_, b', lim, true, false, _, _, _, _, _, _, _, _, _, _, q2, by omega, by omega, by omega, rfl, he5, by rw [q3, sD], q4, hspec, hFK.trans hF5, rfl⟩
                  omega
                · have hlt : ltS D[a' - 1]! D[P]! = true := by simp only [ltS, decide_eq_true_eq]; exact hcc.1 (by omega)
                  have hor : a' = 0 ∨ ltS D[a' - 1]! D[P]! = true := .inr hlt
                  simp (disch := omega) only [go_sem, Nat.reduceEqDiff, Nat.reduceAdd, ↓reduceIte, get_pushB, get_putB, pickB_t, pickB_f, eqB_t, eqB_f, ltB_t, leB_t, AH.size_push, AH.size_put, AH.ro_push, AH.ro_put]
                  have hpt := Sort.partition_holds ltS swoS D a' b' P hP1 hP2 (by omega)
                  obtain ⟨q1, q2, q3, q4, q5, q6, q7⟩ := Sort.round_part swoS (Sort.partition_holds ltS) hP1 hP2 (by omega) hBD (show Sort.partition ltS D a' b' P = ((Sort.partition ltS D a' b' P).1, (Sort.partition ltS D a' b' P).2.1, (Sort.partition ltS D a' b' P).2.2) from rfl)
                  have hc := partition_ok KD bx D a' b' P heK (by omega) (by omega) hP2
                  rw [SV, sD] at hc
                  refine callW_of hc ?_
                  rintro r K5 ⟨rfl, he5, hF5⟩
                  clear hc
                  have hF5 := hFK.trans hF5
                  have pL := @pdqL e D a' b' lim P lim true false (by omega) (by omega) hpi hPe hLe hor ⟨q1, q2⟩
                  have pR := @pdqR e D a' b' lim P lim true false (by omega) (by omega) hpi hPe hLe hor ⟨q1, q2⟩
                  obtain ⟨mid, hmid⟩ : ∃ m, m = (Sort.partition ltS D a' b' P).1 := ⟨_, rfl⟩
                  obtain ⟨ap, hap⟩ : ∃ m, m = (Sort.partition ltS D a' b' P).2.1 := ⟨_, rfl⟩
                  obtain ⟨D4, hD4⟩ : ∃ m, m = (Sort.partition ltS D a' b' P).2.2 := ⟨_, rfl⟩
                  rw [← hmid, ← hap, ← hD4] at pL pR
                  rw [← hmid] at q1 q2 q4 q5 q6 q7
                  rw [← hD4] at q3 q4 q5 q6 q7 he5
                  rw [← hmid, ← hap]
                  have el1 : (mid : Int) - a' = ((mid - a' : Nat) : Int) := by omega
                  have el2 : (b' : Int) - mid = ((b' - mid : Nat) : Int) := by omega
                  have q8 : IntKind.i64.wrap ((l : Int).tdiv 8) = ((l / 8 : Nat) : Int) := by rw [IntWalk.i64_quo _ _ ⟨by omega, by omega, by omega⟩]; omega
                  have sD4 : D4.size = d.size := by rw [q3, sD]
                  simp (disch := omega) only [go_sem, Nat.reduceEqDiff, Nat.reduceAdd, ↓reduceIte, get_pushB, get_putB, pickB_t, pickB_f, eqB_t, eqB_f, ltB_t, leB_t, AH.size_push, AH.size_put, AH.ro_push, AH.ro_put, el1, el2, q8]
                  refine ⟨by decide, Split.mk (fun m1 => ?_) (fun m1 => ?_)⟩
                  · have pL := pL (by omega)
                    have hc := IH (mid - a') (by omega) K5 bx D4 a' mid lim (by omega) he5 (by have := hF5.ro; have := hF5.size; omega) q1 (by omega) (by omega) q4
                    rw [SV, sD4] at hc
                    simp (disch := omega) only [go_sem, Nat.reduceEqDiff, Nat.reduceAdd, ↓reduceIte, get_pushB, get_putB, pickB_t, pickB_f, eqB_t, eqB_f, ltB_t, leB_t, AH.size_push, AH.size_put, AH.ro_push, AH.ro_put]
                    refine callW_of hc ?_
                    rintro r K6 ⟨rfl, he6, hF6⟩
                    clear hc
                    obtain ⟨r1, r2⟩ := Sort.pdq_sorts ltS swoS D4 a' mid lim true true q1 (by omega) q4
                    obtain ⟨r3, -⟩ := q6 _ r1 r2
                    have ed : decide (((l / 8 : Nat) : Int) ≤ ((mid - a' : Nat) : Int)) = decide (mid - a' ≥ (b' - a') / 8) := by rw [← hl]; exact decide_eq_decide.2 (by omega)
                    simp (disch := omega) only [go_sem, Nat.reduceEqDiff, Nat.reduceAdd, ↓reduceIte, get_pushB, get_putB, pickB_t, pickB_f, eqB_t, eqB_f, ltB_t, leB_t, AH.size_push, AH.size_put, AH.ro_push, AH.ro_put]
                    refine ih _ _ _ ?_ ⟨mid + 1, b', lim, decide (mid - a' ≥ (b' - a') / 8), ap, _, _, _, _, _, _, _, _, _, _, by omega, by omega, by omega, by omega, rfl, he6, r1.1.trans sD4, r3, pL.symm.trans hspec, hF5.trans hF6, by rw [← ed]; simp only [Int.natCast_add]; rfl⟩
                    omega
                  · have pR := pR (by omega)
                    have em : (mid : Int) + 1 = ((mid + 1 : Nat) : Int) := by omega
                    have hc := IH (b' - (mid + 1)) (by omega) K5 bx D4 (mid + 1) b' lim (by omega) he5 (by have := hF5.ro; have := hF5.size; omega) (by omega) (by omega) (by omega) q5
                    rw [SV, sD4] at hc
                    simp (disch := omega) only [go_sem, Nat.reduceEqDiff, Nat.reduceAdd, ↓reduceIte, get_pushB, get_putB, pickB_t, pickB_f, eqB_t, eqB_f, ltB_t, leB_t, AH.size_push, AH.size_put, AH.ro_push, AH.ro_put, em]
                    refine callW_of hc ?_
                    rintro r K6 ⟨rfl, he6, hF6⟩
                    clear hc
                    obtain ⟨r1, r2⟩ := Sort.pdq_sorts ltS swoS D4 (mid + 1) b' lim true true (by omega) (by omega) q5
                    obtain ⟨r3, -⟩ := q7 _ r1 r2
                    have ed : decide (((l / 8 : Nat) : Int) ≤ ((b' - mid : Nat) : Int)) = decide (b' - mid ≥ (b' - a') / 8) := by rw [← hl]; exact decide_eq_decide.2 (by omega)
                    simp (disch := omega) only [go_sem, Nat.reduceEqDiff, Nat.reduceAdd, ↓reduceIte, get_pushB, get_putB, pickB_t, pickB_f, eqB_t, eqB_f, ltB_t, leB_t, AH.size_push, AH.size_put, AH.ro_push, AH.ro_put]
                    refine ih _ _ _ ?_ ⟨a', mid, lim, decide (b' - mid ≥ (b' - a') / 8), ap, _, _, _, _, _, _, _, _, _, _, by omega, by omega, by omega, by omega, rfl, he6, r1.1.trans sD4, r3, pR.symm.trans hspec, hF5.trans hF6, by rw [← ed]⟩
                    omega
              · have hor : a' = 0 ∨ ltS D[a' - 1]! D[P]! = true := .inl (by omega)
                have heK := he4
                have hFK := hF4
                simp (disch := omega) only [go_sem, Nat.reduceEqDiff, Nat.reduceAdd, ↓reduceIte, get_pushB, get_putB, pickB_t, pickB_f, eqB_t, eqB_f, ltB_t, leB_t, AH.size_push, AH.size_put, AH.ro_push, AH.ro_put]
                have hpt := Sort.partition_holds ltS swoS D a' b' P hP1 hP2 (by omega)
                obtain ⟨q1, q2, q3, q4, q5, q6, q7⟩ := Sort.round_part swoS (Sort.partition_holds ltS) hP1 hP2 (by omega) hBD (show Sort.partition ltS D a' b' P = ((Sort.partition ltS D a' b' P).1, (Sort.partition ltS D a' b' P).2.1, (Sort.partition ltS D a' b' P).2.2) from rfl)
                have hc := partition_ok _ bx D a' b' P heK (by omega) (by omega) hP2
                rw [SV, sD] at hc
                refine callW_of hc ?_
                rintro r K5 ⟨rfl, he5, hF5⟩
                clear hc
                have hF5 := hFK.trans hF5
                have pL := @pdqL e D a' b' lim P lim true false (by omega) (by omega) hpi hPe hLe hor ⟨q1, q2⟩
                have pR := @pdqR e D a' b' lim P lim true false (by omega) (by omega) hpi hPe hLe hor ⟨q1, q2⟩
                obtain ⟨mid, hmid⟩ : ∃ m, m = (Sort.partition ltS D a' b' P).1 := ⟨_, rfl⟩
                obtain ⟨ap, hap⟩ : ∃ m, m = (Sort.partition ltS D a' b' P).2.1 := ⟨_, rfl⟩
                obtain ⟨D4, hD4⟩ : ∃ m, m = (Sort.partition ltS D a' b' P).2.2 := ⟨_, rfl⟩
                rw [← hmid, ← hap, ← hD4] at pL pR
                rw [← hmid] at q1 q2 q4 q5 q6 q7
                rw [← hD4] at q3 q4 q5 q6 q7 he5
                rw [← hmid, ← hap]
                have el1 : (mid : Int) - a' = ((mid - a' : Nat) : Int) := by omega
                have el2 : (b' : Int) - mid = ((b' - mid : Nat) : Int) := by omega
                have q8 : IntKind.i64.wrap ((l : Int).tdiv 8) = ((l / 8 : Nat) : Int) := by rw [IntWalk.i64_quo _ _ ⟨by omega, by omega, by omega⟩]; omega
                have sD4 : D4.size = d.size := by rw [q3, sD]
                simp (disch := omega) only [go_sem, Nat.reduceEqDiff, Nat.reduceAdd, ↓reduceIte, get_pushB, get_putB, pickB_t, pickB_f, eqB_t, eqB_f, ltB_t, leB_t, AH.size_push, AH.size_put, AH.ro_push, AH.ro_put, el1, el2, q8]
                refine ⟨by decide, Split.mk (fun m1 => ?_) (fun m1 => ?_)⟩
                · have pL := pL (by omega)
                  have hc := IH (mid - a') (by omega) K5 bx D4 a' mid lim (by omega) he5 (by have := hF5.ro; have := hF5.size; omega) q1 (by omega) (by omega) q4
                  rw [SV, sD4] at hc
                  simp (disch := omega) only [go_sem, Nat.reduceEqDiff, Nat.reduceAdd, ↓reduceIte, get_pushB, get_putB, pickB_t, pickB_f, eqB_t, eqB_f, ltB_t, leB_t, AH.size_push, AH.size_put, AH.ro_push, AH.ro_put]
                  refine callW_of hc ?_
                  rintro r K6 ⟨rfl, he6, hF6⟩
                  clear hc
                  obtain ⟨r1, r2⟩ := Sort.pdq_sorts ltS swoS D4 a' mid lim true true q1 (by omega) q4
                  obtain ⟨r3, -⟩ := q6 _ r1 r2
                  have ed : decide (((l / 8 : Nat) : Int) ≤ ((mid - a' : Nat) : Int)) = decide (mid - a' ≥ (b' - a') / 8) := by rw [← hl]; exact decide_eq_decide.2 (by omega)
                  simp (disch := omega) only [go_sem, Nat.reduceEqDiff, Nat.reduceAdd, ↓reduceIte, get_pushB, get_putB, pickB_t, pickB_f, eqB_t, eqB_f, ltB_t, leB_t, AH.size_push, AH.size_put, AH.ro_push, AH.ro_put]
                  refine ih _ _ _ ?_ ⟨mid + 1, b', lim, decide (mid - a' ≥ (b' - a') / 8), ap, _, _, _, _, _, _, _, _, _, _, by omega, by omega, by omega, by omega, rfl, he6, r1.1.trans sD4, r3, pL.symm.trans hspec, hF5.trans hF6, by rw [← ed]; simp only [Int.natCast_add]; rfl⟩
                  omega
                · have pR := pR (by omega)
                  have em : (mid : Int) + 1 = ((mid + 1 : Nat) : Int) := by omega
                  have hc := IH (b' - (mid + 1)) (by omega) K5 bx D4 (mid + 1) b' lim (by omega) he5 (by have := hF5.ro; have := hF5.size; omega) (by omega) (by omega) (by omega) q5
                  rw [SV, sD4] at hc
                  simp (disch := omega) only [go_sem, Nat.reduceEqDiff, Nat.reduceAdd, ↓reduceIte, get_pushB, get_putB, pickB_t, pickB_f, eqB_t, eqB_f, ltB_t, leB_t, AH.size_push, AH.size_put, AH.ro_push, AH.ro_put, em]
                  refine callW_of hc ?_
                  rintro r K6 ⟨rfl, he6, hF6⟩
                  clear hc
                  obtain ⟨r1, r2⟩ := Sort.pdq_sorts ltS swoS D4 (mid + 1) b' lim true true (by omega) (by omega) q5
                  obtain ⟨r3, -⟩ := q7 _ r1 r2
                  have ed : decide (((l / 8 : Nat) : Int) ≤ ((b' - mid : Nat) : Int)) = decide (b' - mid ≥ (b' - a') / 8) := by rw [← hl]; exact decide_eq_decide.2 (by omega)
                  simp (disch := omega) only [go_sem, Nat.reduceEqDiff, Nat.reduceAdd, ↓reduceIte, get_pushB, get_putB, pickB_t, pickB_f, eqB_t, eqB_f, ltB_t, leB_t, AH.size_push, AH.size_put, AH.ro_push, AH.ro_put]
                  refine ih _ _ _ ?_ ⟨a', mid, lim, decide (b' - mid ≥ (b' - a') / 8), ap, _, _, _, _, _, _, _, _, _, _, by omega, by omega, by omega, by omega, rfl, he6, r1.1.trans sD4, r3, pR.symm.trans hspec, hF5.trans hF6, by rw [← ed]⟩
                  omega
            · have hc2 : (Sort.rd ltS e a' b' lim true false).c.2 = .decreasing := by rw [hcd]; exact hh
              obtain ⟨g1, g2, g3⟩ := Sort.rd_dec hc2
              rw [hd1] at g1
              obtain ⟨D2, hD2⟩ : ∃ x, x = Sort.reverseRange D1 a' b' := ⟨_, rfl⟩
              have hd2 : (Sort.rd ltS e a' b' lim true false).d2 = D2 := g1.trans hD2.symm
              have hhi := g3
              rw [hcd] at g2
              obtain ⟨P, hP⟩ : ∃ x, x = (b' - 1) - (C.1 - a') := ⟨_, rfl⟩
              have hPe : (Sort.rd ltS e a' b' lim true false).pivot = P := g2.trans hP.symm
              rw [hPe] at f6
              obtain ⟨hP1, hP2⟩ := f6
              rw [hd2] at f4
              have s2 : D2.size = d.size := f4.trans hes
              have hc := reverse_ok K2 bx D1 a' b' he2 (by omega) (by omega)
              rw [SV, s1, ← hD2] at hc
              have eb1 : (b' : Int) - 1 = ((b' - 1 : Nat) : Int) := by omega
              have eb2 : (C.1 : Int) - a' = ((C.1 - a' : Nat) : Int) := by omega
              have eb3 : ((b' - 1 : Nat) : Int) - ((C.1 - a' : Nat) : Int) = (P : Int) := by omega
              refine Split.mk (fun _ => ?_) (fun u => absurd rfl u)
              simp (disch := omega) only [go_sem, Nat.reduceEqDiff, Nat.reduceAdd, ↓reduceIte, get_pushB, get_putB, pickB_t, pickB_f, eqB_t, eqB_f, ltB_t, leB_t, AH.size_push, AH.size_put, AH.ro_push, AH.ro_put]
              refine callW_of hc ?_
              rintro r K3 ⟨rfl, he3, hF3⟩
              clear hc
              have hF3 := hF2.trans hF3
              simp (disch := omega) only [go_sem, Nat.reduceEqDiff, Nat.reduceAdd, ↓reduceIte, get_pushB, get_putB, pickB_t, pickB_f, eqB_t, eqB_f, ltB_t, leB_t, AH.size_push, AH.size_put, AH.ro_push, AH.ro_put, eb1, eb2, eb3]
              have hpi0 : (Sort.rd ltS e a' b' lim true false).pi = (D2, false) := by rw [Sort.rd_pi_no (by simp), hd2]
              obtain ⟨D, hD⟩ : ∃ x, x = D2 := ⟨_, rfl⟩
              rw [← hD] at hpi0
              have hpi := hpi0
              rw [hpi0] at f7 f8
              have hBD : Sort.Below ltS a' b' D := f8
              have sD : D.size = d.size := f7.trans hes
              have he4 : SpAt K3 bx D := by rw [hD]; exact he3
              have hF4 := hF3
              refine SplitG.mk (fun g1 => ?_) (fun g1 => ?_)
              · have ea : (a' : Int) - 1 = ((a' - 1 : Nat) : Int) := by omega
                have y1 := sp_ix bx d.size ((a' - 1 : Nat) : Int) (by omega) .i64
                have y2 := sp_ix bx d.size (P : Int) (by omega) .i64
                have z1 := sp_ld he4 ((a' - 1 : Nat) : Int) (by omega)
                have z2 := sp_ld he4 (P : Int) (by omega)
                simp only [Int.toNat_natCast] at z1 z2
                simp (disch := omega) only [go_sem, Nat.reduceEqDiff, Nat.reduceAdd, ↓reduceIte, get_pushB, get_putB, pickB_t, pickB_f, eqB_t, eqB_f, ltB_t, leB_t, AH.size_push, AH.size_put, AH.ro_push, AH.ro_put, ea, y1, y2, z1, z2]
                refine callW_of (cmp_ok _ _ _) ?_
                rintro r KD ⟨c, rfl, hcc, hc1, hc2, hE⟩
                have heK := he4.ext hE
                have hFK := hF4.trans (Fr.of_ext bx hE)
                simp (disch := omega) only [go_sem, Nat.reduceEqDiff, Nat.reduceAdd, ↓reduceIte, get_pushB, get_putB, pickB_t, pickB_f, eqB_t, eqB_f, ltB_t, leB_t, AH.size_push, AH.size_put, AH.ro_push, AH.ro_put]
                refine Split.mk (fun g2 => ?_) (fun g2 => ?_)
                · have hlt : ltS D[a' - 1]! D[P]! = false := by simp only [ltS, decide_eq_false_iff_not]; exact fun h => absurd (hcc.2 h) (by omega)
                  obtain ⟨q1, q2, q3, q4, -⟩ := Sort.round_eq swoS (Sort.partitionEqual_holds ltS) (by omega) hP1 hP2 (by omega) hBD hlt (show Sort.partitionEqual ltS D a' b' P = ((Sort.partitionEqual ltS D a' b' P).1, (Sort.partitionEqual ltS D a' b' P).2) from rfl)
                  have hc := partitionEqual_ok KD bx D a' b' P heK (by omega) (by omega) hP2
                  rw [SV, sD] at hc
                  simp (disch := omega) only [go_sem, Nat.reduceEqDiff, Nat.reduceAdd, ↓reduceIte, get_pushB, get_putB, pickB_t, pickB_f, eqB_t, eqB_f, ltB_t, leB_t, AH.size_push, AH.size_put, AH.ro_push, AH.ro_put]
                  refine callW_of hc ?_
                  rintro r K5 ⟨rfl, he5, hF5⟩
                  clear hc
                  rw [@pdqE e D a' b' lim P lim true false (by omega) (by omega) hpi hPe hLe (by omega) hlt ⟨q1, q2⟩] at hspec
                  simp (disch := omega) only [go_sem, Nat.reduceEqDiff, Nat.reduceAdd, ↓reduceIte, get_pushB, get_putB, pickB_t, pickB_f, eqB_t, eqB_f, ltB_t, leB_t, AH.size_push, AH.size_put, AH.ro_push, AH.ro_put]
                  refine ih _ _ _ ?_ ⟨_, b', lim, true, false, _, _, _, _, _, _, _, _, _, _, q2, by omega, by omega, by omega, rfl, he5, by rw [q3, sD], q4, hspec, hFK.trans hF5, rfl⟩
                  omega
                · have hlt : ltS D[a' - 1]! D[P]! = true := by simp only [ltS, decide_eq_true_eq]; exact hcc.1 (by omega)
                  have hor : a' = 0 ∨ ltS D[a' - 1]! D[P]! = true := .inr hlt
                  simp (disch := omega) only [go_sem, Nat.reduceEqDiff, Nat.reduceAdd, ↓reduceIte, get_pushB, get_putB, pickB_t, pickB_f, eqB_t, eqB_f, ltB_t, leB_t, AH.size_push, AH.size_put, AH.ro_push, AH.ro_put]
                  have hpt := Sort.partition_holds ltS swoS D a' b' P hP1 hP2 (by omega)
                  obtain ⟨q1, q2, q3, q4, q5, q6, q7⟩ := Sort.round_part swoS (Sort.partition_holds ltS) hP1 hP2 (by omega) hBD (show Sort.partition ltS D a' b' P = ((Sort.partition ltS D a' b' P).1, (Sort.partition ltS D a' b' P).2.1, (Sort.partition ltS D a' b' P).2.2) from rfl)
                  have hc := partition_ok KD bx D a' b' P heK (by omega) (by omega) hP2
                  rw [SV, sD] at hc
                  refine callW_of hc ?_
                  rintro r K5 ⟨rfl, he5, hF5⟩
                  clear hc
                  have hF5 := hFK.trans hF5
                  have pL := @pdqL e D a' b' lim P lim true false (by omega) (by omega) hpi hPe hLe hor ⟨q1, q2⟩
                  have pR := @pdqR e D a' b' lim P lim true false (by omega) (by omega) hpi hPe hLe hor ⟨q1, q2⟩
                  obtain ⟨mid, hmid⟩ : ∃ m, m = (Sort.partition ltS D a' b' P).1 := ⟨_, rfl⟩
                  obtain ⟨ap, hap⟩ : ∃ m, m = (Sort.partition ltS D a' b' P).2.1 := ⟨_, rfl⟩
                  obtain ⟨D4, hD4⟩ : ∃ m, m = (Sort.partition ltS D a' b' P).2.2 := ⟨_, rfl⟩
                  rw [← hmid, ← hap, ← hD4] at pL pR
                  rw [← hmid] at q1 q2 q4 q5 q6 q7
                  rw [← hD4] at q3 q4 q5 q6 q7 he5
                  rw [← hmid, ← hap]
                  have el1 : (mid : Int) - a' = ((mid - a' : Nat) : Int) := by omega
                  have el2 : (b' : Int) - mid = ((b' - mid : Nat) : Int) := by omega
                  have q8 : IntKind.i64.wrap ((l : Int).tdiv 8) = ((l / 8 : Nat) : Int) := by rw [IntWalk.i64_quo _ _ ⟨by omega, by omega, by omega⟩]; omega
                  have sD4 : D4.size = d.size := by rw [q3, sD]
                  simp (disch := omega) only [go_sem, Nat.reduceEqDiff, Nat.reduceAdd, ↓reduceIte, get_pushB, get_putB, pickB_t, pickB_f, eqB_t, eqB_f, ltB_t, leB_t, AH.size_push, AH.size_put, AH.ro_push, AH.ro_put, el1, el2, q8]
                  refine ⟨by decide, Split.mk (fun m1 => ?_) (fun m1 => ?_)⟩
                  · have pL := pL (by omega)
                    have hc := IH (mid - a') (by omega) K5 bx D4 a' mid lim (by omega) he5 (by have := hF5.ro; have := hF5.size; omega) q1 (by omega) (by omega) q4
                    rw [SV, sD4] at hc
                    simp (disch := omega) only [go_sem, Nat.reduceEqDiff, Nat.reduceAdd, ↓reduceIte, get_pushB, get_putB, pickB_t, pickB_f, eqB_t, eqB_f, ltB_t, leB_t, AH.size_push, AH.size_put, AH.ro_push, AH.ro_put]
                    refine callW_of hc ?_
                    rintro r K6 ⟨rfl, he6, hF6⟩
                    clear hc
                    obtain ⟨r1, r2⟩ := Sort.pdq_sorts ltS swoS D4 a' mid lim true true q1 (by omega) q4
                    obtain ⟨r3, -⟩ := q6 _ r1 r2
                    have ed : decide (((l / 8 : Nat) : Int) ≤ ((mid - a' : Nat) : Int)) = decide (mid - a' ≥ (b' - a') / 8) := by rw [← hl]; exact decide_eq_decide.2 (by omega)
                    simp (disch := omega) only [go_sem, Nat.reduceEqDiff, Nat.reduceAdd, ↓reduceIte, get_pushB, get_putB, pickB_t, pickB_f, eqB_t, eqB_f, ltB_t, leB_t, AH.size_push, AH.size_put, AH.ro_push, AH.ro_put]
                    refine ih _ _ _ ?_ ⟨mid + 1, b', lim, decide (mid - a' ≥ (b' - a') / 8), ap, _, _, _, _, _, _, _, _, _, _, by omega, by omega, by omega, by omega, rfl, he6, r1.1.trans sD4, r3, pL.symm.trans hspec, hF5.trans hF6, by rw [← ed]; simp only [Int.natCast_add]; rfl⟩
                    omega
                  · have pR := pR (by omega)
                    have em : (mid : Int) + 1 = ((mid + 1 : Nat) : Int) := by omega
                    have hc := IH (b' - (mid + 1)) (by omega) K5 bx D4 (mid + 1) b' lim (by omega) he5 (by have := hF5.ro; have := hF5.size; omega) (by omega) (by omega) (by omega) q5
                    rw [SV, sD4] at hc
                    simp (disch := omega) only [go_sem, Nat.reduceEqDiff, Nat.reduceAdd, ↓reduceIte, get_pushB, get_putB, pickB_t, pickB_f, eqB_t, eqB_f, ltB_t, leB_t, AH.size_push, AH.size_put, AH.ro_push, AH.ro_put, em]
                    refine callW_of hc ?_
                    rintro r K6 ⟨rfl, he6, hF6⟩
                    clear hc
                    obtain ⟨r1, r2⟩ := Sort.pdq_sorts ltS swoS D4 (mid + 1) b' lim true true (by omega) (by omega) q5
                    obtain ⟨r3, -⟩ := q7 _ r1 r2
                    have ed : decide (((l / 8 : Nat) : Int) ≤ ((b' - mid : Nat) : Int)) = decide (b' - mid ≥ (b' - a') / 8) := by rw [← hl]; exact decide_eq_decide.2 (by omega)
                    simp (disch := omega) only [go_sem, Nat.reduceEqDiff, Nat.reduceAdd, ↓reduceIte, get_pushB, get_putB, pickB_t, pickB_f, eqB_t, eqB_f, ltB_t, leB_t, AH.size_push, AH.size_put, AH.ro_push, AH.ro_put]
                    refine ih _ _ _ ?_ ⟨a', mid, lim, decide (b' - mid ≥ (b' - a') / 8), ap, _, _, _, _, _, _, _, _, _, _, by omega, by omega, by omega, by omega, rfl, he6, r1.1.trans sD4, r3, pR.symm.trans hspec, hF5.trans hF6, by rw [← ed]⟩
                    omega
              · have hor : a' = 0 ∨ ltS D[a' - 1]! D[P]! = true := .inl (by omega)
                have heK := he4
                have hFK := hF4
                simp (disch := omega) only [go_sem, Nat.reduceEqDiff, Nat.reduceAdd, ↓reduceIte, get_pushB, get_putB, pickB_t, pickB_f, eqB_t, eqB_f, ltB_t, leB_t, AH.size_push, AH.size_put, AH.ro_push, AH.ro_put]
                have hpt := Sort.partition_holds ltS swoS D a' b' P hP1 hP2 (by omega)
                obtain ⟨q1, q2, q3, q4, q5, q6, q7⟩ := Sort.round_part swoS (Sort.partition_holds ltS) hP1 hP2 (by omega) hBD (show Sort.partition ltS D a' b' P = ((Sort.partition ltS D a' b' P).1, (Sort.partition ltS D a' b' P).2.1, (Sort.partition ltS D a' b' P).2.2) from rfl)
                have hc := partition_ok _ bx D a' b' P heK (by omega) (by omega) hP2
                rw [SV, sD] at hc
                refine callW_of hc ?_
                rintro r K5 ⟨rfl, he5, hF5⟩
                clear hc
                have hF5 := hFK.trans hF5
                have pL := @pdqL e D a' b' lim P lim true false (by omega) (by omega) hpi hPe hLe hor ⟨q1, q2⟩
                have pR := @pdqR e D a' b' lim P lim true false (by omega) (by omega) hpi hPe hLe hor ⟨q1, q2⟩
                obtain ⟨mid, hmid⟩ : ∃ m, m = (Sort.partition ltS D a' b' P).1 := ⟨_, rfl⟩
                obtain ⟨ap, hap⟩ : ∃ m, m = (Sort.partition ltS D a' b' P).2.1 := ⟨_, rfl⟩
                obtain ⟨D4, hD4⟩ : ∃ m, m = (Sort.partition ltS D a' b' P).2.2 := ⟨_, rfl⟩
                rw [← hmid, ← hap, ← hD4] at pL pR
                rw [← hmid] at q1 q2 q4 q5 q6 q7
                rw [← hD4] at q3 q4 q5 q6 q7 he5
                rw [← hmid, ← hap]
                have el1 : (mid : Int) - a' = ((mid - a' : Nat) : Int) := by omega
                have el2 : (b' : Int) - mid = ((b' - mid : Nat) : Int) := by omega
                have q8 : IntKind.i64.wrap ((l : Int).tdiv 8) = ((l / 8 : Nat) : Int) := by rw [IntWalk.i64_quo _ _ ⟨by omega, by omega, by omega⟩]; omega
                have sD4 : D4.size = d.size := by rw [q3, sD]
                simp (disch := omega) only [go_sem, Nat.reduceEqDiff, Nat.reduceAdd, ↓reduceIte, get_pushB, get_putB, pickB_t, pickB_f, eqB_t, eqB_f, ltB_t, leB_t, AH.size_push, AH.size_put, AH.ro_push, AH.ro_put, el1, el2, q8]
                refine ⟨by decide, Split.mk (fun m1 => ?_) (fun m1 => ?_)⟩
                · have pL := pL (by omega)
                  have hc := IH (mid - a') (by omega) K5 bx D4 a' mid lim (by omega) he5 (by have := hF5.ro; have := hF5.size; omega) q1 (by omega) (by omega) q4
                  rw [SV, sD4] at hc
                  simp (disch := omega) only [go_sem, Nat.reduceEqDiff, Nat.reduceAdd, ↓reduceIte, get_pushB, get_putB, pickB_t, pickB_f, eqB_t, eqB_f, ltB_t, leB_t, AH.size_push, AH.size_put, AH.ro_push, AH.ro_put]
                  refine callW_of hc ?_
                  rintro r K6 ⟨rfl, he6, hF6⟩
                  clear hc
                  obtain ⟨r1, r2⟩ := Sort.pdq_sorts ltS swoS D4 a' mid lim true true q1 (by omega) q4
                  obtain ⟨r3, -⟩ := q6 _ r1 r2
                  have ed : decide (((l / 8 : Nat) : Int) ≤ ((mid - a' : Nat) : Int)) = decide (mid - a' ≥ (b' - a') / 8) := by rw [← hl]; exact decide_eq_decide.2 (by omega)
                  simp (disch := omega) only [go_sem, Nat.reduceEqDiff, Nat.reduceAdd, ↓reduceIte, get_pushB, get_putB, pickB_t, pickB_f, eqB_t, eqB_f, ltB_t, leB_t, AH.size_push, AH.size_put, AH.ro_push, AH.ro_put]
                  refine ih _ _ _ ?_ ⟨mid + 1, b', lim, decide (mid - a' ≥ (b' - a') / 8), ap, _, _, _, _, _, _, _, _, _, _, by omega, by omega, by omega, by omega, rfl, he6, r1.1.trans sD4, r3, pL.symm.trans hspec, hF5.trans hF6, by rw [← ed]; simp only [Int.natCast_add]; rfl⟩
                  omega
                · have pR := pR (by omega)
                  have em : (mid : Int) + 1 = ((mid + 1 : Nat) : Int) := by omega
                  have hc := IH (b' - (mid + 1)) (by omega) K5 bx D4 (mid + 1) b' lim (by omega) he5 (by have := hF5.ro; have := hF5.size; omega) (by omega) (by omega) (by omega) q5
                  rw [SV, sD4] at hc
                  simp (disch := omega) only [go_sem, Nat.reduceEqDiff, Nat.reduceAdd, ↓reduceIte, get_pushB, get_putB, pickB_t, pickB_f, eqB_t, eqB_f, ltB_t, leB_t, AH.size_push, AH.size_put, AH.ro_push, AH.ro_put, em]
                  refine callW_of hc ?_
                  rintro r K6 ⟨rfl, he6, hF6⟩
                  clear hc
                  obtain ⟨r1, r2⟩ := Sort.pdq_sorts ltS swoS D4 (mid + 1) b' lim true true (by omega) (by omega) q5
                  obtain ⟨r3, -⟩ := q7 _ r1 r2
                  have ed : decide (((l / 8 : Nat) : Int) ≤ ((b' - mid : Nat) : Int)) = decide (b' - mid ≥ (b' - a') / 8) := by rw [← hl]; exact decide_eq_decide.2 (by omega)
                  simp (disch := omega) only [go_sem, Nat.reduceEqDiff, Nat.reduceAdd, ↓reduceIte, get_pushB, get_putB, pickB_t, pickB_f, eqB_t, eqB_f, ltB_t, leB_t, AH.size_push, AH.size_put, AH.ro_push, AH.ro_put]
                  refine ih _ _ _ ?_ ⟨a', mid, lim, decide (b' - mid ≥ (b' - a') / 8), ap, _, _, _, _, _, _, _, _, _, _, by omega, by omega, by omega, by omega, rfl, he6, r1.1.trans sD4, r3, pR.symm.trans hspec, hF5.trans hF6, by rw [← ed]⟩
                  omega
          · rcases hh : C.2 with _ | _ | _
            · have hc2 : (Sort.rd ltS e a' b' lim true true).c.2 = .unknown := by rw [hcd]; exact hh
              obtain ⟨g1, g2, g3⟩ := Sort.rd_not (show (Sort.rd ltS e a' b' lim true true).c.2 ≠ .decreasing by rw [hc2]; decide)
              rw [hd1] at g1
              obtain ⟨D2, hD2⟩ : ∃ x, x = D1 := ⟨_, rfl⟩
              have hd2 : (Sort.rd ltS e a' b' lim true true).d2 = D2 := g1.trans hD2.symm
              have hhi : (Sort.rd ltS e a' b' lim true true).hint = .unknown := g3.trans hc2
              rw [hcd] at g2
              obtain ⟨P, hP⟩ : ∃ x, x = C.1 := ⟨_, rfl⟩
              have hPe : (Sort.rd ltS e a' b' lim true true).pivot = P := g2.trans hP.symm
              rw [hPe] at f6
              obtain ⟨hP1, hP2⟩ := f6
              rw [hd2] at f4
              have s2 : D2.size = d.size := f4.trans hes
              have he3 : SpAt K2 bx D2 := by rw [hD2]; exact he2
              rw [← hP]
              refine Split.mk (fun u => absurd u (by decide)) (fun _ => ?_)
              simp (disch := omega) only [go_sem, Nat.reduceEqDiff, Nat.reduceAdd, ↓reduceIte, get_pushB, get_putB, pickB_t, pickB_f, eqB_t, eqB_f, ltB_t, leB_t, AH.size_push, AH.size_put, AH.ro_push, AH.ro_put]
              have hpi0 : (Sort.rd ltS e a' b' lim true true).pi = (D2, false) := by rw [Sort.rd_pi_no (by rw [hhi]; rfl), hd2]
              obtain ⟨D, hD⟩ : ∃ x, x = D2 := ⟨_, rfl⟩
              rw [← hD] at hpi0
              have hpi := hpi0
              rw [hpi0] at f7 f8
              have hBD : Sort.Below ltS a' b' D := f8
              have sD : D.size = d.size := f7.trans hes
              have he4 : SpAt K2 bx D := by rw [hD]; exact he3
              have hF4 := hF2
              refine Split.mk (fun u => absurd u (by decide)) (fun _ => ?_)
              simp (disch := omega) only [go_sem, Nat.reduceEqDiff, Nat.reduceAdd, ↓reduceIte, get_pushB, get_putB, pickB_t, pickB_f, eqB_t, eqB_f, ltB_t, leB_t, AH.size_push, AH.size_put, AH.ro_push, AH.ro_put]
              refine SplitG.mk (fun g1 => ?_) (fun g1 => ?_)
              · have ea : (a' : Int) - 1 = ((a' - 1 : Nat) : Int) := by omega
                have y1 := sp_ix bx d.size ((a' - 1 : Nat) : Int) (by omega) .i64
                have y2 := sp_ix bx d.size (P : Int) (by omega) .i64
                have z1 := sp_ld he4 ((a' - 1 : Nat) : Int) (by omega)
                have z2 := sp_ld he4 (P : Int) (by omega)
                simp only [Int.toNat_natCast] at z1 z2
                simp (disch := omega) only [go_sem, Nat.reduceEqDiff, Nat.reduceAdd, ↓reduceIte, get_pushB, get_putB, pickB_t, pickB_f, eqB_t, eqB_f, ltB_t, leB_t, AH.size_push, AH.size_put, AH.ro_push, AH.ro_put, ea, y1, y2, z1, z2]
                refine callW_of (cmp_ok _ _ _) ?_
                rintro r KD ⟨c, rfl, hcc, hc1, hc2, hE⟩
                have heK := he4.ext hE
                have hFK := hF4.trans (Fr.of_ext bx hE)
                simp (disch := omega) only [go_sem, Nat.reduceEqDiff, Nat.reduceAdd, ↓reduceIte, get_pushB, get_putB, pickB_t, pickB_f, eqB_t, eqB_f, ltB_t, leB_t, AH.size_push, AH.size_put, AH.ro_push, AH.ro_put]
                refine Split.mk (fun g2 => ?_) (fun g2 => ?_)
                · have hlt : ltS D[a' - 1]! D[P]! = false := by simp only [ltS, decide_eq_false_iff_not]; exact fun h => absurd (hcc.2 h) (by omega)
                  obtain ⟨q1, q2, q3, q4, -⟩ := Sort.round_eq swoS (Sort.partitionEqual_holds ltS) (by omega) hP1 hP2 (by omega) hBD hlt (show Sort.partitionEqual ltS D a' b' P = ((Sort.partitionEqual ltS D a' b' P).1, (Sort.partitionEqual ltS D a' b' P).2) from rfl)
                  have hc := partitionEqual_ok KD bx D a' b' P heK (by omega) (by omega) hP2
                  rw [SV, sD] at hc
                  simp (disch := omega) only [go_sem, Nat.reduceEqDiff, Nat.reduceAdd, ↓reduceIte, get_pushB, get_putB, pickB_t, pickB_f, eqB_t, eqB_f, ltB_t, leB_t, AH.size_push, AH.size_put, AH.ro_push, AH.ro_put]
                  refine callW_of hc ?_
                  rintro r K5 ⟨rfl, he5, hF5⟩
                  clear hc
                  rw [@pdqE e D a' b' lim P lim true true (by omega) (by omega) hpi hPe hLe (by omega) hlt ⟨q1, q2⟩] at hspec
                  simp (disch := omega) only [go_sem, Nat.reduceEqDiff, Nat.reduceAdd, ↓reduceIte, get_pushB, get_putB, pickB_t, pickB_f, eqB_t, eqB_f, ltB_t, leB_t, AH.size_push, AH.size_put, AH.ro_push, AH.ro_put]
                  refine ih _ _ _ ?_ ⟨_, b', lim, true, true, _, _, _, _, _, _, _, _, _, _, q2, by omega, by omega, by omega, rfl, he5, by rw [q3, sD], q4, hspec, hFK.trans hF5, rfl⟩
                  omega
                · have hlt : ltS D[a' - 1]! D[P]! = true := by simp only [ltS, decide_eq_true_eq]; exact hcc.1 (by omega)
                  have hor : a' = 0 ∨ ltS D[a' - 1]! D[P]! = true := .inr hlt
                  simp (disch := omega) only [go_sem, Nat.reduceEqDiff, Nat.reduceAdd, ↓reduceIte, get_pushB, get_putB, pickB_t, pickB_f, eqB_t, eqB_f, ltB_t, leB_t, AH.size_push, AH.size_put, AH.ro_push, AH.ro_put]
                  have hpt := Sort.partition_holds ltS swoS D a' b' P hP1 hP2 (by omega)
                  obtain ⟨q1, q2, q3, q4, q5, q6, q7⟩ := Sort.round_part swoS (Sort.partition_holds ltS) hP1 hP2 (by omega) hBD (show Sort.partition ltS D a' b' P = ((Sort.partition ltS D a' b' P).1, (Sort.partition ltS D a' b' P).2.1, (Sort.partition ltS D a' b' P).2.2) from rfl)
                  have hc := partition_ok KD bx D a' b' P heK (by omega) (by omega) hP2
                  rw [SV, sD] at hc
                  refine callW_of hc ?_
                  rintro r K5 ⟨rfl, he5, hF5⟩
                  clear hc
                  have hF5 := hFK.trans hF5
                  have pL := @pdqL e D a' b' lim P lim true true (by omega) (by omega) hpi hPe hLe hor ⟨q1, q2⟩
                  have pR := @pdqR e D a' b' lim P lim true true (by omega) (by omega) hpi hPe hLe hor ⟨q1, q2⟩
                  obtain ⟨mid, hmid⟩ : ∃ m, m = (Sort.partition ltS D a' b' P).1 := ⟨_, rfl⟩
                  obtain ⟨ap, hap⟩ : ∃ m, m = (Sort.partition ltS D a' b' P).2.1 := ⟨_, rfl⟩
                  obtain ⟨D4, hD4⟩ : ∃ m, m = (Sort.partition ltS D a' b' P).2.2 := ⟨_, rfl⟩
                  rw [← hmid, ← hap, ← hD4] at pL pR
                  rw [← hmid] at q1 q2 q4 q5 q6 q7
                  rw [← hD4] at q3 q4 q5 q6 q7 he5
                  rw [← hmid, ← hap]
                  have el1 : (mid : Int) - a' = ((mid - a' : Nat) : Int) := by omega
                  have el2 : (b' : Int) - mid = ((b' - mid : Nat) : Int) := by omega
                  have q8 : IntKind.i64.wrap ((l : Int).tdiv 8) = ((l / 8 : Nat) : Int) := by rw [IntWalk.i64_quo _ _ ⟨by omega, by omega, by omega⟩]; omega
                  have sD4 : D4.size = d.size := by rw [q3, sD]
                  simp (disch := omega) only [go_sem, Nat.reduceEqDiff, Nat.reduceAdd, ↓reduceIte, get_pushB, get_putB, pickB_t, pickB_f, eqB_t, eqB_f, ltB_t, leB_t, AH.size_push, AH.size_put, AH.ro_push, AH.ro_put, el1, el2, q8]
                  refine ⟨by decide, Split.mk (fun m1 => ?_) (fun m1 => ?_)⟩
                  · have pL := pL (by omega)
                    have hc := IH (mid - a') (by omega) K5 bx D4 a' mid lim (by omega) he5 (by have := hF5.ro; have := hF5.size; omega) q1 (by omega) (by omega) q4
                    rw [SV, sD4] at hc
                    simp (disch := omega) only [go_sem, Nat.reduceEqDiff, Nat.reduceAdd, ↓reduceIte, get_pushB, get_putB, pickB_t, pickB_f, eqB_t, eqB_f, ltB_t, leB_t, AH.size_push, AH.size_put, AH.ro_push, AH.ro_put]
                    refine callW_of hc ?_
                    rintro r K6 ⟨rfl, he6, hF6⟩
                    clear hc
                    obtain ⟨r1, r2⟩ := Sort.pdq_sorts ltS swoS D4 a' mid lim true true q1 (by omega) q4
                    obtain ⟨r3, -⟩ := q6 _ r1 r2
                    have ed : decide (((l / 8 : Nat) : Int) ≤ ((mid - a' : Nat) : Int)) = decide (mid - a' ≥ (b' - a') / 8) := by rw [← hl]; exact decide_eq_decide.2 (by omega)
                    simp (disch := omega) only [go_sem, Nat.reduceEqDiff, Nat.reduceAdd, ↓reduceIte, get_pushB, get_putB, pickB_t, pickB_f, eqB_t, eqB_f, ltB_t, leB_t, AH.size_push, AH.size_put, AH.ro_push, AH.ro_put]
                    refine ih _ _ _ ?_ ⟨mid + 1, b', lim, decide (mid - a' ≥ (b' - a') / 8), ap, _, _, _, _, _, _, _, _, _, _, by omega, by omega, by omega, by omega, rfl, he6, r1.1.trans sD4, r3, pL.symm.trans hspec, hF5.trans hF6, by rw [← ed]; simp only [Int.natCast_add]; rfl⟩
                    omega
                  · have pR := pR (by omega)
                    have em : (mid : Int) + 1 = ((mid + 1 : Nat) : Int) := by omega
                    have hc := IH (b' - (mid + 1)) (by omega) K5 bx D4 (mid + 1) b' lim (by omega) he5 (by have := hF5.ro; have := hF5.size; omega) (by omega) (by omega) (by omega) q5
                    rw [SV, sD4] at hc
                    simp (disch := omega) only [go_sem, Nat.reduceEqDiff, Nat.reduceAdd, ↓reduceIte, get_pushB, get_putB, pickB_t, pickB_f, eqB_t, eqB_f, ltB_t, leB_t, AH.size_push, AH.size_put, AH.ro_push, AH.ro_put, em]
                    refine callW_of hc ?_
                    rintro r K6 ⟨rfl, he6, hF6⟩
                    clear hc
                    obtain ⟨r1, r2⟩ := Sort.pdq_sorts ltS swoS D4 (mid + 1) b' lim true true (by omega) (by omega) q5
                    obtain ⟨r3, -⟩ := q7 _ r1 r2
                    have ed : decide (((l / 8 : Nat) : Int) ≤ ((b' - mid : Nat) : Int)) = decide (b' - mid ≥ (b' - a') / 8) := by rw [← hl]; exact decide_eq_decide.2 (by omega)
                    simp (disch := omega) only [go_sem, Nat.reduceEqDiff, Nat.reduceAdd, ↓reduceIte, get_pushB, get_putB, pickB_t, pickB_f, eqB_t, eqB_f, ltB_t, leB_t, AH.size_push, AH.size_put, AH.ro_push, AH.ro_put]
                    refine ih _ _ _ ?_ ⟨a', mid, lim, decide (b' - mid ≥ (b' - a') / 8), ap, _, _, _, _, _, _, _, _, _, _, by omega, by omega, by omega, by omega, rfl, he6, r1.1.trans sD4, r3, pR.symm.trans hspec, hF5.trans hF6, by rw [← ed]⟩
                    omega
              · have hor : a' = 0 ∨ ltS D[a' - 1]! D[P]! = true := .inl (by omega)
                have heK := he4
                have hFK := hF4
                simp (disch := omega) only [go_sem, Nat.reduceEqDiff, Nat.reduceAdd, ↓reduceIte, get_pushB, get_putB, pickB_t, pickB_f, eqB_t, eqB_f, ltB_t, leB_t, AH.size_push, AH.size_put, AH.ro_push, AH.ro_put]
                have hpt := Sort.partition_holds ltS swoS D a' b' P hP1 hP2 (by omega)
                obtain ⟨q1, q2, q3, q4, q5, q6, q7⟩ := Sort.round_part swoS (Sort.partition_holds ltS) hP1 hP2 (by omega) hBD (show Sort.partition ltS D a' b' P = ((Sort.partition ltS D a' b' P).1, (Sort.partition ltS D a' b' P).2.1, (Sort.partition ltS D a' b' P).2.2) from rfl)
                have hc := partition_ok _ bx D a' b' P heK (by omega) (by omega) hP2
                rw [SV, sD] at hc
                refine callW_of hc ?_
                rintro r K5 ⟨rfl, he5, hF5⟩
                clear hc
                have hF5 := hFK.trans hF5
                have pL := @pdqL e D a' b' lim P lim true true (by omega) (by omega) hpi hPe hLe hor ⟨q1, q2⟩
                have pR := @pdqR e D a' b' lim P lim true true (by omega) (by omega) hpi hPe hLe hor ⟨q1, q2⟩
                obtain ⟨mid, hmid⟩ : ∃ m, m = (Sort.partition ltS D a' b' P).1 := ⟨_, rfl⟩
                obtain ⟨ap, hap⟩ : ∃ m, m = (Sort.partition ltS D a' b' P).2.1 := ⟨_, rfl⟩
                obtain ⟨D4, hD4⟩ : ∃ m, m = (Sort.partition ltS D a' b' P).2.2 := ⟨_, rfl⟩
                rw [← hmid, ← hap, ← hD4] at pL pR
                rw [← hmid] at q1 q2 q4 q5 q6 q7
                rw [← hD4] at q3 q4 q5 q6 q7 he5
                rw [← hmid, ← hap]
                have el1 : (mid : Int) - a' = ((mid - a' : Nat) : Int) := by omega
                have el2 : (b' : Int) - mid = ((b' - mid : Nat) : Int) := by omega
                have q8 : IntKind.i64.wrap ((l : Int).tdiv 8) = ((l / 8 : Nat) : Int) := by rw [IntWalk.i64_quo _ _ ⟨by omega, by omega, by omega⟩]; omega
                have sD4 : D4.size = d.size := by rw [q3, sD]
                simp (disch := omega) only [go_sem, Nat.reduceEqDiff, Nat.reduceAdd, ↓reduceIte, get_pushB, get_putB, pickB_t, pickB_f, eqB_t, eqB_f, ltB_t, leB_t, AH.size_push, AH.size_put, AH.ro_push, AH.ro_put, el1, el2, q8]
                refine ⟨by decide, Split.mk (fun m1 => ?_) (fun m1 => ?_)⟩
                · have pL := pL (by omega)
                  have hc := IH (mid - a') (by omega) K5 bx D4 a' mid lim (by omega) he5 (by have := hF5.ro; have := hF5.size; omega) q1 (by omega) (by omega) q4
                  rw [SV, sD4] at hc
                  simp (disch := omega) only [go_sem, Nat.reduceEqDiff, Nat.reduceAdd, ↓reduceIte, get_pushB, get_putB, pickB_t, pickB_f, eqB_t, eqB_f, ltB_t, leB_t, AH.size_push, AH.size_put, AH.ro_push, AH.ro_put]
                  refine callW_of hc ?_
                  rintro r K6 ⟨rfl, he6, hF6⟩
                  clear hc
                  obtain ⟨r1, r2⟩ := Sort.pdq_sorts ltS swoS D4 a' mid lim true true q1 (by omega) q4
                  obtain ⟨r3, -⟩ := q6 _ r1 r2
                  have ed : decide (((l / 8 : Nat) : Int) ≤ ((mid - a' : Nat) : Int)) = decide (mid - a' ≥ (b' - a') / 8) := by rw [← hl]; exact decide_eq_decide.2 (by omega)
                  simp (disch := omega) only [go_sem, Nat.reduceEqDiff, Nat.reduceAdd, ↓reduceIte, get_pushB, get_putB, pickB_t, pickB_f, eqB_t, eqB_f, ltB_t, leB_t, AH.size_push, AH.size_put, AH.ro_push, AH.ro_put]
                  refine ih _ _ _ ?_ ⟨mid + 1, b', lim, decide (mid - a' ≥ (b' - a') / 8), ap, _, _, _, _, _, _, _, _, _, _, by omega, by omega, by omega, by omega, rfl, he6, r1.1.trans sD4, r3, pL.symm.trans hspec, hF5.trans hF6, by rw [← ed]; simp only [Int.natCast_add]; rfl⟩
                  omega
                · have pR := pR (by omega)
                  have em : (mid : Int) + 1 = ((mid + 1 : Nat) : Int) := by omega
                  have hc := IH (b' - (mid + 1)) (by omega) K5 bx D4 (mid + 1) b' lim (by omega) he5 (by have := hF5.ro; have := hF5.size; omega) (by omega) (by omega) (by omega) q5
                  rw [SV, sD4] at hc
                  simp (disch := omega) only [go_sem, Nat.reduceEqDiff, Nat.reduceAdd, ↓reduceIte, get_pushB, get_putB, pickB_t, pickB_f, eqB_t, eqB_f, ltB_t, leB_t, AH.size_push, AH.size_put, AH.ro_push, AH.ro_put, em]
                  refine callW_of hc ?_
                  rintro r K6 ⟨rfl, he6, hF6⟩
                  clear hc
                  obtain ⟨r1, r2⟩ := Sort.pdq_sorts ltS swoS D4 (mid + 1) b' lim true true (by omega) (by omega) q5
                  obtain ⟨r3, -⟩ := q7 _ r1 r2
                  have ed : decide (((l / 8 : Nat) : Int) ≤ ((b' - mid : Nat) : Int)) = decide (b' - mid ≥ (b' - a') / 8) := by rw [← hl]; exact decide_eq_decide.2 (by omega)
                  simp (disch := omega) only [go_sem, Nat.reduceEqDiff, Nat.reduceAdd, ↓reduceIte, get_pushB, get_putB, pickB_t, pickB_f, eqB_t, eqB_f, ltB_t, leB_t, AH.size_push, AH.size_put, AH.ro_push, AH.ro_put]
                  refine ih _ _ _ ?_ ⟨a', mid, lim, decide (b' - mid ≥ (b' - a') / 8), ap, _, _, _, _, _, _, _, _, _, _, by omega, by omega, by omega, by omega, rfl, he6, r1.1.trans sD4, r3, pR.symm.trans hspec, hF5.trans hF6, by rw [← ed]⟩
                  omega
            · have hc2 : (Sort.rd ltS e a' b' lim true true).c.2 = .increasing := by rw [hcd]; exact hh
              obtain ⟨g1, g2, g3⟩ := Sort.rd_not (show (Sort.rd ltS e a' b' lim true true).c.2 ≠ .decreasing by rw [hc2]; decide)
              rw [hd1] at g1
              obtain ⟨D2, hD2⟩ : ∃ x, x = D1 := ⟨_, rfl⟩
              have hd2 : (Sort.rd ltS e a' b' lim true true).d2 = D2 := g1.trans hD2.symm
              have hhi : (Sort.rd ltS e a' b' lim true true).hint = .increasing := g3.trans hc2
              rw [hcd] at g2
              obtain ⟨P, hP⟩ : ∃ x, x = C.1 := ⟨_, rfl⟩
              have hPe : (Sort.rd ltS e a' b' lim true true).pivot = P := g2.trans hP.symm
              rw [hPe] at f6
              obtain ⟨hP1, hP2⟩ := f6
              rw [hd2] at f4
              have s2 : D2.size = d.size := f4.trans hes
              have he3 : SpAt K2 bx D2 := by rw [hD2]; exact he2
              rw [← hP]
              refine Split.mk (fun u => absurd u (by decide)) (fun _ => ?_)
              simp (disch := omega) only [go_sem, Nat.reduceEqDiff, Nat.reduceAdd, ↓reduceIte, get_pushB, get_putB, pickB_t, pickB_f, eqB_t, eqB_f, ltB_t, leB_t, AH.size_push, AH.size_put, AH.ro_push, AH.ro_put]
              have hpi0 : (Sort.rd ltS e a' b' lim true true).pi = Sort.partialInsertionSort ltS D2 a' b' := by rw [Sort.rd_pi_yes (by rw [hhi]; rfl), hd2]
              have hc := partial_ok K2 bx D2 a' b' he3 (by omega) (by omega)
              rw [SV, s2] at hc
              refine Split.mk (fun _ => ?_) (fun u => absurd rfl u)
              simp (disch := omega) only [go_sem, Nat.reduceEqDiff, Nat.reduceAdd, ↓reduceIte, get_pushB, get_putB, pickB_t, pickB_f, eqB_t, eqB_f, ltB_t, leB_t, AH.size_push, AH.size_put, AH.ro_push, AH.ro_put]
              refine callW_of hc ?_
              rintro r K4 ⟨rfl, he4, hF4⟩
              clear hc
              have hF4 := hF2.trans hF4
              obtain ⟨X, hX⟩ : ∃ x, x = Sort.partialInsertionSort ltS D2 a' b' := ⟨_, rfl⟩
              rw [← hX] at hpi0 he4 ⊢
              obtain ⟨D, bl⟩ := X
              rw [hpi0] at f7 f8
              have hBD : Sort.Below ltS a' b' D := f8
              have sD : D.size = d.size := f7.trans hes
              cases bl
              · have hpi := hpi0
                simp (disch := omega) only [go_sem, Nat.reduceEqDiff, Nat.reduceAdd, ↓reduceIte, get_pushB, get_putB, pickB_t, pickB_f, eqB_t, eqB_f, ltB_t, leB_t, AH.size_push, AH.size_put, AH.ro_push, AH.ro_put]
                refine SplitG.mk (fun g1 => ?_) (fun g1 => ?_)
                · have ea : (a' : Int) - 1 = ((a' - 1 : Nat) : Int) := by omega
                  have y1 := sp_ix bx d.size ((a' - 1 : Nat) : Int) (by omega) .i64
                  have y2 := sp_ix bx d.size (P : Int) (by omega) .i64
                  have z1 := sp_ld he4 ((a' - 1 : Nat) : Int) (by omega)
                  have z2 := sp_ld he4 (P : Int) (by omega)
                  simp only [Int.toNat_natCast] at z1 z2
                  simp (disch := omega) only [go_sem, Nat.reduceEqDiff, Nat.reduceAdd, ↓reduceIte, get_pushB, get_putB, pickB_t, pickB_f, eqB_t, eqB_f, ltB_t, leB_t, AH.size_push, AH.size_put, AH.ro_push, AH.ro_put, ea, y1, y2, z1, z2]
                  refine callW_of (cmp_ok _ _ _) ?_
                  rintro r KD ⟨c, rfl, hcc, hc1, hc2, hE⟩
                  have heK := he4.ext hE
                  have hFK := hF4.trans (Fr.of_ext bx hE)
                  simp (disch := omega) only [go_sem, Nat.reduceEqDiff, Nat.reduceAdd, ↓reduceIte, get_pushB, get_putB, pickB_t, pickB_f, eqB_t, eqB_f, ltB_t, leB_t, AH.size_push, AH.size_put, AH.ro_push, AH.ro_put]
                  refine Split.mk (fun g2 => ?_) (fun g2 => ?_)
                  · have hlt : ltS D[a' - 1]! D[P]! = false := by simp only [ltS, decide_eq_false_iff_not]; exact fun h => absurd (hcc.2 h) (by omega)
                    obtain ⟨q1, q2, q3, q4, -⟩ := Sort.round_eq swoS (Sort.partitionEqual_holds ltS) (by omega) hP1 hP2 (by omega) hBD hlt (show Sort.partitionEqual ltS D a' b' P = ((Sort.partitionEqual ltS D a' b' P).1, (Sort.partitionEqual ltS D a' b' P).2) from rfl)
                    have hc := partitionEqual_ok KD bx D a' b' P heK (by omega) (by omega) hP2
                    rw [SV, sD] at hc
                    simp (disch := omega) only [go_sem, Nat.reduceEqDiff, Nat.reduceAdd, ↓reduceIte, get_pushB, get_putB, pickB_t, pickB_f, eqB_t, eqB_f, ltB_t, leB_t, AH.size_push, AH.size_put, AH.ro_push, AH.ro_put]
                    refine callW_of hc ?_
                    rintro r K5 ⟨rfl, he5, hF5⟩
                    clear hc
                    rw [@pdqE e D a' b' lim P lim true true (by omega) (by omega) hpi hPe hLe (by omega) hlt ⟨q1, q2⟩] at hspec
                    simp (disch := omega) only [go_sem, Nat.reduceEqDiff, Nat.reduceAdd, ↓reduceIte, get_pushB, get_putB, pickB_t, pickB_f, eqB_t, eqB_f, ltB_t, leB_t, AH.size_push, AH.size_put, AH.ro_push, AH.ro_put]
                    refine ih _ _ _ ?_ ⟨_, b', lim, true, true, _, _, _, _, _, _, _, _, _, _, q2, by omega, by omega, by omega, rfl, he5, by rw [q3, sD], q4, hspec, hFK.trans hF5, rfl⟩
                    omega
                  · have hlt : ltS D[a' - 1]! D[P]! = true := by simp only [ltS, decide_eq_true_eq]; exact hcc.1 (by omega)
                    have hor : a' = 0 ∨ ltS D[a' - 1]! D[P]! = true := .inr hlt
                    simp (disch := omega) only [go_sem, Nat.reduceEqDiff, Nat.reduceAdd, ↓reduceIte, get_pushB, get_putB, pickB_t, pickB_f, eqB_t, eqB_f, ltB_t, leB_t, AH.size_push, AH.size_put, AH.ro_push, AH.ro_put]
                    have hpt := Sort.partition_holds ltS swoS D a' b' P hP1 hP2 (by omega)
                    obtain ⟨q1, q2, q3, q4, q5, q6, q7⟩ := Sort.round_part swoS (Sort.partition_holds ltS) hP1 hP2 (by omega) hBD (show Sort.partition ltS D a' b' P = ((Sort.partition ltS D a' b' P).1, (Sort.partition ltS D a' b' P).2.1, (Sort.partition ltS D a' b' P).2.2) from rfl)
                    have hc := partition_ok KD bx D a' b' P heK (by omega) (by omega) hP2
                    rw [SV, sD] at hc
                    refine callW_of hc ?_
                    rintro r K5 ⟨rfl, he5, hF5⟩
                    clear hc
                    have hF5 := hFK.trans hF5
                    have pL := @pdqL e D a' b' lim P lim true true (by omega) (by omega) hpi hPe hLe hor ⟨q1, q2⟩
                    have pR := @pdqR e D a' b' lim P lim true true (by omega) (by omega) hpi hPe hLe hor ⟨q1, q2⟩
                    obtain ⟨mid, hmid⟩ : ∃ m, m = (Sort.partition ltS D a' b' P).1 := ⟨_, rfl⟩
                    obtain ⟨ap, hap⟩ : ∃ m, m = (Sort.partition ltS D a' b' P).2.1 := ⟨_, rfl⟩
                    obtain ⟨D4, hD4⟩ : ∃ m, m = (Sort.partition ltS D a' b' P).2.2 := ⟨_, rfl⟩
                    rw [← hmid, ← hap, ← hD4] at pL pR
                    rw [← hmid] at q1 q2 q4 q5 q6 q7
                    rw [← hD4] at q3 q4 q5 q6 q7 he5
                    rw [← hmid, ← hap]
                    have el1 : (mid : Int) - a' = ((mid - a' : Nat) : Int) := by omega
                    have el2 : (b' : Int) - mid = ((b' - mid : Nat) : Int) := by omega
                    have q8 : IntKind.i64.wrap ((l : Int).tdiv 8) = ((l / 8 : Nat) : Int) := by rw [IntWalk.i64_quo _ _ ⟨by omega, by omega, by omega⟩]; omega
                    have sD4 : D4.size = d.size := by rw [q3, sD]
                    simp (disch := omega) only [go_sem, Nat.reduceEqDiff, Nat.reduceAdd, ↓reduceIte, get_pushB, get_putB, pickB_t, pickB_f, eqB_t, eqB_f, ltB_t, leB_t, AH.size_push, AH.size_put, AH.ro_push, AH.ro_put, el1, el2, q8]
                    refine ⟨by decide, Split.mk (fun m1 => ?_) (fun m1 => ?_)⟩
                    · have pL := pL (by omega)
                      have hc := IH (mid - a') (by omega) K5 bx D4 a' mid lim (by omega) he5 (by have := hF5.ro; have := hF5.size; omega) q1 (by omega) (by omega) q4
                      rw [SV, sD4] at hc
                      simp (disch := omega) only [go_sem, Nat.reduceEqDiff, Nat.reduceAdd, ↓reduceIte, get_pushB, get_putB, pickB_t, pickB_f, eqB_t, eqB_f, ltB_t, leB_t, AH.size_push, AH.size_put, AH.ro_push, AH.ro_put]
                      refine callW_of hc ?_
                      rintro r K6 ⟨rfl, he6, hF6⟩
                      clear hc
                      obtain ⟨r1, r2⟩ := Sort.pdq_sorts ltS swoS D4 a' mid lim true true q1 (by omega) q4
                      obtain ⟨r3, -⟩ := q6 _ r1 r2
                      have ed : decide (((l / 8 : Nat) : Int) ≤ ((mid - a' : Nat) : Int)) = decide (mid - a' ≥ (b' - a') / 8) := by rw [← hl]; exact decide_eq_decide.2 (by omega)
                      simp (disch := omega) only [go_sem, Nat.reduceEqDiff, Nat.reduceAdd, ↓reduceIte, get_pushB, get_putB, pickB_t, pickB_f, eqB_t, eqB_f, ltB_t, leB_t, AH.size_push, AH.size_put, AH.ro_push, AH.ro_put]
                      refine ih _ _ _ ?_ ⟨mid + 1, b', lim, decide (mid - a' ≥ (b' - a') / 8), ap, _, _, _, _, _, _, _, _, _, _, by omega, by omega, by omega, by omega, rfl, he6, r1.1.trans sD4, r3, pL.symm.trans hspec, hF5.trans hF6, by rw [← ed]; simp only [Int.natCast_add]; rfl⟩
                      omega
                    · have pR := pR (by omega)
                      have em : (mid : Int) + 1 = ((mid + 1 : Nat) : Int) := by omega
                      have hc := IH (b' - (mid + 1)) (by omega) K5 bx D4 (mid + 1) b' lim (by omega) he5 (by have := hF5.ro; have := hF5.size; omega) (by omega) (by omega) (by omega) q5
                      rw [SV, sD4] at hc
                      simp (disch := omega) only [go_sem, Nat.reduceEqDiff, Nat.reduceAdd, ↓reduceIte, get_pushB, get_putB, pickB_t, pickB_f, eqB_t, eqB_f, ltB_t, leB_t, AH.size_push, AH.size_put, AH.ro_push, AH.ro_put, em]
                      refine callW_of hc ?_
                      rintro r K6 ⟨rfl, he6, hF6⟩
                      clear hc
                      obtain ⟨r1, r2⟩ := Sort.pdq_sorts ltS swoS D4 (mid + 1) b' lim true true (by omega) (by omega) q5
                      obtain ⟨r3, -⟩ := q7 _ r1 r2
                      have ed : decide (((l / 8 : Nat) : Int) ≤ ((b' - mid : Nat) : Int)) = decide (b' - mid ≥ (b' - a') / 8) := by rw [← hl]; exact decide_eq_decide.2 (by omega)
                      simp (disch := omega) only [go_sem, Nat.reduceEqDiff, Nat.reduceAdd, ↓reduceIte, get_pushB, get_putB, pickB_t, pickB_f, eqB_t, eqB_f, ltB_t, leB_t, AH.size_push, AH.size_put, AH.ro_push, AH.ro_put]
                      refine ih _ _ _ ?_ ⟨a', mid, lim, decide (b' - mid ≥ (b' - a') / 8), ap, _, _, _, _, _, _, _, _, _, _, by omega, by omega, by omega, by omega, rfl, he6, r1.1.trans sD4, r3, pR.symm.trans hspec, hF5.trans hF6, by rw [← ed]⟩
                      omega
                · have hor : a' = 0 ∨ ltS D[a' - 1]! D[P]! = true := .inl (by omega)
                  have heK := he4
                  have hFK := hF4
                  simp (disch := omega) only [go_sem, Nat.reduceEqDiff, Nat.reduceAdd, ↓reduceIte, get_pushB, get_putB, pickB_t, pickB_f, eqB_t, eqB_f, ltB_t, leB_t, AH.size_push, AH.size_put, AH.ro_push, AH.ro_put]
                  have hpt := Sort.partition_holds ltS swoS D a' b' P hP1 hP2 (by omega)
                  obtain ⟨q1, q2, q3, q4, q5, q6, q7⟩ := Sort.round_part swoS (Sort.partition_holds ltS) hP1 hP2 (by omega) hBD (show Sort.partition ltS D a' b' P = ((Sort.partition ltS D a' b' P).1, (Sort.partition ltS D a' b' P).2.1, (Sort.partition ltS D a' b' P).2.2) from rfl)
                  have hc := partition_ok _ bx D a' b' P heK (by omega) (by omega) hP2
                  rw [SV, sD] at hc
                  refine callW_of hc ?_
                  rintro r K5 ⟨rfl, he5, hF5⟩
                  clear hc
                  have hF5 := hFK.trans hF5
                  have pL := @pdqL e D a' b' lim P lim true true (by omega) (by omega) hpi hPe hLe hor ⟨q1, q2⟩
                  have pR := @pdqR e D a' b' lim P lim true true (by omega) (by omega) hpi hPe hLe hor ⟨q1, q2⟩
                  obtain ⟨mid, hmid⟩ : ∃ m, m = (Sort.partition ltS D a' b' P).1 := ⟨_, rfl⟩
                  obtain ⟨ap, hap⟩ : ∃ m, m = (Sort.partition ltS D a' b' P).2.1 := ⟨_, rfl⟩
                  obtain ⟨D4, hD4⟩ : ∃ m, m = (Sort.partition ltS D a' b' P).2.2 := ⟨_, rfl⟩
                  rw [← hmid, ← hap, ← hD4] at pL pR
                  rw [← hmid] at q1 q2 q4 q5 q6 q7
                  rw [← hD4] at q3 q4 q5 q6 q7 he5
                  rw [← hmid, ← hap]
                  have el1 : (mid : Int) - a' = ((mid - a' : Nat) : Int) := by omega
                  have el2 : (b' : Int) - mid = ((b' - mid : Nat) : Int) := by omega
                  have q8 : IntKind.i64.wrap ((l : Int).tdiv 8) = ((l / 8 : Nat) : Int) := by rw [IntWalk.i64_quo _ _ ⟨by omega, by omega, by omega⟩]; omega
                  have sD4 : D4.size = d.size := by rw [q3, sD]
                  simp (disch := omega) only [go_sem, Nat.reduceEqDiff, Nat.reduceAdd, ↓reduceIte, get_pushB, get_putB, pickB_t, pickB_f, eqB_t, eqB_f, ltB_t, leB_t, AH.size_push, AH.size_put, AH.ro_push, AH.ro_put, el1, el2, q8]
                  refine ⟨by decide, Split.mk (fun m1 => ?_) (fun m1 => ?_)⟩
                  · have pL := pL (by omega)
                    have hc := IH (mid - a') (by omega) K5 bx D4 a' mid lim (by omega) he5 (by have := hF5.ro; have := hF5.size; omega) q1 (by omega) (by omega) q4
                    rw [SV, sD4] at hc
                    simp (disch := omega) only [go_sem, Nat.reduceEqDiff, Nat.reduceAdd, ↓reduceIte, get_pushB, get_putB, pickB_t, pickB_f, eqB_t, eqB_f, ltB_t, leB_t, AH.size_push, AH.size_put, AH.ro_push, AH.ro_put]
                    refine callW_of hc ?_
                    rintro r K6 ⟨rfl, he6, hF6⟩
                    clear hc
                    obtain ⟨r1, r2⟩ := Sort.pdq_sorts ltS swoS D4 a' mid lim true true q1 (by omega) q4
                    obtain ⟨r3, -⟩ := q6 _ r1 r2
                    have ed : decide (((l / 8 : Nat) : Int) ≤ ((mid - a' : Nat) : Int)) = decide (mid - a' ≥ (b' - a') / 8) := by rw [← hl]; exact decide_eq_decide.2 (by omega)
                    simp (disch := omega) only [go_sem, Nat.reduceEqDiff, Nat.reduceAdd, ↓reduceIte, get_pushB, get_putB, pickB_t, pickB_f, eqB_t, eqB_f, ltB_t, leB_t, AH.size_push, AH.size_put, AH.ro_push, AH.ro_put]
                    refine ih _ _ _ ?_ ⟨mid + 1, b', lim, decide (mid - a' ≥ (b' - a') / 8), ap, _, _, _, _, _, _, _, _, _, _, by omega, by omega, by omega, by omega, rfl, he6, r1.1.trans sD4, r3, pL.symm.trans hspec, hF5.trans hF6, by rw [← ed]; simp only [Int.natCast_add]; rfl⟩
                    omega
                  · have pR := pR (by omega)
                    have em : (mid : Int) + 1 = ((mid + 1 : Nat) : Int) := by omega
                    have hc := IH (b' - (mid + 1)) (by omega) K5 bx D4 (mid + 1) b' lim (by omega) he5 (by have := hF5.ro; have := hF5.size; omega) (by omega) (by omega) (by omega) q5
                    rw [SV, sD4] at hc
                    simp (disch := omega) only [go_sem, Nat.reduceEqDiff, Nat.reduceAdd, ↓reduceIte, get_pushB, get_putB, pickB_t, pickB_f, eqB_t, eqB_f, ltB_t, leB_t, AH.size_push, AH.size_put, AH.ro_push, AH.ro_put, em]
                    refine callW_of hc ?_
                    rintro r K6 ⟨rfl, he6, hF6⟩
                    clear hc
                    obtain ⟨r1, r2⟩ := Sort.pdq_sorts ltS swoS D4 (mid + 1) b' lim true true (by omega) (by omega) q5
                    obtain ⟨r3, -⟩ := q7 _ r1 r2
                    have ed : decide (((l / 8 : Nat) : Int) ≤ ((b' - mid : Nat) : Int)) = decide (b' - mid ≥ (b' - a') / 8) := by rw [← hl]; exact decide_eq_decide.2 (by omega)
                    simp (disch := omega) only [go_sem, Nat.reduceEqDiff, Nat.reduceAdd, ↓reduceIte, get_pushB, get_putB, pickB_t, pickB_f, eqB_t, eqB_f, ltB_t, leB_t, AH.size_push, AH.size_put, AH.ro_push, AH.ro_put]
                    refine ih _ _ _ ?_ ⟨a', mid, lim, decide (b' - mid ≥ (b' - a') / 8), ap, _, _, _, _, _, _, _, _, _, _, by omega, by omega, by omega, by omega, rfl, he6, r1.1.trans sD4, r3, pR.symm.trans hspec, hF5.trans hF6, by rw [← ed]⟩
                    omega
              · rw [Sort.pdq_done (by omega) (by omega) (by rw [hpi0]), hpi0] at hspec
                simp (disch := omega) only [go_sem, Nat.reduceEqDiff, Nat.reduceAdd, ↓reduceIte, get_pushB, get_putB, pickB_t, pickB_f, eqB_t, eqB_f, ltB_t, leB_t, AH.size_push, AH.size_put, AH.ro_push, AH.ro_put]
                rw [← hspec]
                exact ⟨he4, hF4⟩
            · have hc2 : (Sort.rd ltS e a' b' lim true true).c.2 = .decreasing := by rw [hcd]; exact hh
              obtain ⟨g1, g2, g3⟩ := Sort.rd_dec hc2
              rw [hd1] at g1
              obtain ⟨D2, hD2⟩ : ∃ x, x = Sort.reverseRange D1 a' b' := ⟨_, rfl⟩
              have hd2 : (Sort.rd ltS e a' b' lim true true).d2 = D2 := g1.trans hD2.symm
              have hhi := g3
              rw [hcd] at g2
              obtain ⟨P, hP⟩ : ∃ x, x = (b' - 1) - (C.1 - a') := ⟨_, rfl⟩
              have hPe : (Sort.rd ltS e a' b' lim true true).pivot = P := g2.trans hP.symm
              rw [hPe] at f6
              obtain ⟨hP1, hP2⟩ := f6
              rw [hd2] at f4
              have s2 : D2.size = d.size := f4.trans hes
              have hc := reverse_ok K2 bx D1 a' b' he2 (by omega) (by omega)
              rw [SV, s1, ← hD2] at hc
              have eb1 : (b' : Int) - 1 = ((b' - 1 : Nat) : Int) := by omega
              have eb2 : (C.1 : Int) - a' = ((C.1 - a' : Nat) : Int) := by omega
              have eb3 : ((b' - 1 : Nat) : Int) - ((C.1 - a' : Nat) : Int) = (P : Int) := by omega
              refine Split.mk (fun _ => ?_) (fun u => absurd rfl u)
              simp (disch := omega) only [go_sem, Nat.reduceEqDiff, Nat.reduceAdd, ↓reduceIte, get_pushB, get_putB, pickB_t, pickB_f, eqB_t, eqB_f, ltB_t, leB_t, AH.size_push, AH.size_put, AH.ro_push, AH.ro_put]
              refine callW_of hc ?_
              rintro r K3 ⟨rfl, he3, hF3⟩
              clear hc
              have hF3 := hF2.trans hF3
              simp (disch := omega) only [go_sem, Nat.reduceEqDiff, Nat.reduceAdd, ↓reduceIte, get_pushB, get_putB, pickB_t, pickB_f, eqB_t, eqB_f, ltB_t, leB_t, AH.size_push, AH.size_put, AH.ro_push, AH.ro_put, eb1, eb2, eb3]
              have hpi0 : (Sort.rd ltS e a' b' lim true true).pi = Sort.partialInsertionSort ltS D2 a' b' := by rw [Sort.rd_pi_yes (by rw [hhi]; rfl), hd2]
              have hc := partial_ok K3 bx D2 a' b' he3 (by omega) (by omega)
              rw [SV, s2] at hc
              refine callW_of hc ?_
              rintro r K4 ⟨rfl, he4, hF4⟩
              clear hc
              have hF4 := hF3.trans hF4
              obtain ⟨X, hX⟩ : ∃ x, x = Sort.partialInsertionSort ltS D2 a' b' := ⟨_, rfl⟩
              rw [← hX] at hpi0 he4 ⊢
              obtain ⟨D, bl⟩ := X
              rw [hpi0] at f7 f8
              have hBD : Sort.Below ltS a' b' D := f8
              have sD : D.size = d.size := f7.trans hes
              cases bl
              · have hpi := hpi0
                simp (disch := omega) only [go_sem, Nat.reduceEqDiff, Nat.reduceAdd, ↓reduceIte, get_pushB, get_putB, pickB_t, pickB_f, eqB_t, eqB_f, ltB_t, leB_t, AH.size_push, AH.size_put, AH.ro_push, AH.ro_put]
                refine SplitG.mk (fun g1 => ?_) (fun g1 => ?_)
                · have ea : (a' : Int) - 1 = ((a' - 1 : Nat) : Int) := by omega
                  have y1 := sp_ix bx d.size ((a' - 1 : Nat) : Int) (by omega) .i64
                  have y2 := sp_ix bx d.size (P : Int) (by omega) .i64
                  have z1 := sp_ld he4 ((a' - 1 : Nat) : Int) (by omega)
                  have z2 := sp_ld he4 (P : Int) (by omega)
                  simp only [Int.toNat_natCast] at z1 z2
                  simp (disch := omega) only [go_sem, Nat.reduceEqDiff, Nat.reduceAdd, ↓reduceIte, get_pushB, get_putB, pickB_t, pickB_f, eqB_t, eqB_f, ltB_t, leB_t, AH.size_push, AH.size_put, AH.ro_push, AH.ro_put, ea, y1, y2, z1, z2]
                  refine callW_of (cmp_ok _ _ _) ?_
                  rintro r KD ⟨c, rfl, hcc, hc1, hc2, hE⟩
                  have heK := he4.ext hE
                  have hFK := hF4.trans (Fr.of_ext bx hE)
                  simp (disch := omega) only [go_sem, Nat.reduceEqDiff, Nat.reduceAdd, ↓reduceIte, get_pushB, get_putB, pickB_t, pickB_f, eqB_t, eqB_f, ltB_t, leB_t, AH.size_push, AH.size_put, AH.ro_push, AH.ro_put]
                  refine Split.mk (fun g2 => ?_) (fun g2 => ?_)
                  · have hlt : ltS D[a' - 1]! D[P]! = false := by simp only [ltS, decide_eq_false_iff_not]; exact fun h => absurd (hcc.2 h) (by omega)
                    obtain ⟨q1, q2, q3, q4, -⟩ := Sort.round_eq swoS (Sort.partitionEqual_holds ltS) (by omega) hP1 hP2 (by omega) hBD hlt (show Sort.partitionEqual ltS D a' b' P = ((Sort.partitionEqual ltS D a' b' P).1, (Sort.partitionEqual ltS D a' b' P).2) from rfl)
                    have hc := partitionEqual_ok KD bx D a' b' P heK (by omega) (by omega) hP2
                    rw [SV, sD] at hc
                    simp (disch := omega) only [go_sem, Nat.reduceEqDiff, Nat.reduceAdd, ↓reduceIte, get_pushB, get_putB, pickB_t, pickB_f, eqB_t, eqB_f, ltB_t, leB_t, AH.size_push, AH.size_put, AH.ro_push, AH.ro_put]
                    refine callW_of hc ?_
                    rintro r K5 ⟨rfl, he5, hF5⟩
                    clear hc
                    rw [@pdqE e D a' b' lim P lim true true (by omega) (by omega) hpi hPe hLe (by omega) hlt ⟨q1, q2⟩] at hspec
                    simp (disch := omega) only [go_sem, Nat.reduceEqDiff, Nat.reduceAdd, ↓reduceIte, get_pushB, get_putB, pickB_t, pickB_f, eqB_t, eqB_f, ltB_t, leB_t, AH.size_push, AH.size_put, AH.ro_push, AH.ro_put]
                    refine ih _ _ _ ?_ ⟨_, b', lim, true, true, _, _, _, _, _, _, _, _, _, _, q2, by omega, by omega, by omega, rfl, he5, by rw [q3, sD], q4, hspec, hFK.trans hF5, rfl⟩
                    omega
                  · have hlt : ltS D[a' - 1]! D[P]! = true := by simp only [ltS, decide_eq_true_eq]; exact hcc.1 (by omega)
                    have hor : a' = 0 ∨ ltS D[a' - 1]! D[P]! = true := .inr hlt
                    simp (disch := omega) only [go_sem, Nat.reduceEqDiff, Nat.reduceAdd, ↓reduceIte, get_pushB, get_putB, pickB_t, pickB_f, eqB_t, eqB_f, ltB_t, leB_t, AH.size_push, AH.size_put, AH.ro_push, AH.ro_put]
                    have hpt := Sort.partition_holds ltS swoS D a' b' P hP1 hP2 (by omega)
                    obtain ⟨q1, q2, q3, q4, q5, q6, q7⟩ := Sort.round_part swoS (Sort.partition_holds ltS) hP1 hP2 (by omega) hBD (show Sort.partition ltS D a' b' P = ((Sort.partition ltS D a' b' P).1, (Sort.partition ltS D a' b' P).2.1, (Sort.partition ltS D a' b' P).2.2) from rfl)
                    have hc := partition_ok KD bx D a' b' P heK (by omega) (by omega) hP2
                    rw [SV, sD] at hc
                    refine callW_of hc ?_
                    rintro r K5 ⟨rfl, he5, hF5⟩
                    clear hc
                    have hF5 := hFK.trans hF5
                    have pL := @pdqL e D a' b' lim P lim true true (by omega) (by omega) hpi hPe hLe hor ⟨q1, q2⟩
                    have pR := @pdqR e D a' b' lim P lim true true (by omega) (by omega) hpi hPe hLe hor ⟨q1, q2⟩
                    obtain ⟨mid, hmid⟩ : ∃ m, m = (Sort.partition ltS D a' b' P).1 := ⟨_, rfl⟩
                    obtain ⟨ap, hap⟩ : ∃ m, m = (Sort.partition ltS D a' b' P).2.1 := ⟨_, rfl⟩
                    obtain ⟨D4, hD4⟩ : ∃ m, m = (Sort.partition ltS D a' b' P).2.2 := ⟨_, rfl⟩
                    rw [← hmid, ← hap, ← hD4] at pL pR
                    rw [← hmid] at q1 q2 q4 q5 q6 q7
                    rw [← hD4] at q3 q4 q5 q6 q7 he5
                    rw [← hmid, ← hap]
                    have el1 : (mid : Int) - a' = ((mid - a' : Nat) : Int) := by omega
                    have el2 : (b' : Int) - mid = ((b' - mid : Nat) : Int) := by omega
                    have q8 : IntKind.i64.wrap ((l : Int).tdiv 8) = ((l / 8 : Nat) : Int) := by rw [IntWalk.i64_quo _ _ ⟨by omega, by omega, by omega⟩]; omega
                    have sD4 : D4.size = d.size := by rw [q3, sD]
                    simp (disch := omega) only [go_sem, Nat.reduceEqDiff, Nat.reduceAdd, ↓reduceIte, get_pushB, get_putB, pickB_t, pickB_f, eqB_t, eqB_f, ltB_t, leB_t, AH.size_push, AH.size_put, AH.ro_push, AH.ro_put, el1, el2, q8]
                    refine ⟨by decide, Split.mk (fun m1 => ?_) (fun m1 => ?_)⟩
                    · have pL := pL (by omega)
                      have hc := IH (mid - a') (by omega) K5 bx D4 a' mid lim (by omega) he5 (by have := hF5.ro; have := hF5.size; omega) q1 (by omega) (by omega) q4
                      rw [SV, sD4] at hc
                      simp (disch := omega) only [go_sem, Nat.reduceEqDiff, Nat.reduceAdd, ↓reduceIte, get_pushB, get_putB, pickB_t, pickB_f, eqB_t, eqB_f, ltB_t, leB_t, AH.size_push, AH.size_put, AH.ro_push, AH.ro_put]
                      refine callW_of hc ?_
                      rintro r K6 ⟨rfl, he6, hF6⟩
                      clear hc
                      obtain ⟨r1, r2⟩ := Sort.pdq_sorts ltS swoS D4 a' mid lim true true q1 (by omega) q4
                      obtain ⟨r3, -⟩ := q6 _ r1 r2
                      have ed : decide (((l / 8 : Nat) : Int) ≤ ((mid - a' : Nat) : Int)) = decide (mid - a' ≥ (b' - a') / 8) := by rw [← hl]; exact decide_eq_decide.2 (by omega)
                      simp (disch := omega) only [go_sem, Nat.reduceEqDiff, Nat.reduceAdd, ↓reduceIte, get_pushB, get_putB, pickB_t, pickB_f, eqB_t, eqB_f, ltB_t, leB_t, AH.size_push, AH.size_put, AH.ro_push, AH.ro_put]
                      refine ih _ _ _ ?_ ⟨mid + 1, b', lim, decide (mid - a' ≥ (b' - a') / 8), ap, _, _, _, _, _, _, _, _, _, _, by omega, by omega, by omega, by omega, rfl, he6, r1.1.trans sD4, r3, pL.symm.trans hspec, hF5.trans hF6, by rw [← ed]; simp only [Int.natCast_add]; rfl⟩
                      omega
                    · have pR := pR (by omega)
                      have em : (mid : Int) + 1 = ((mid + 1 : Nat) : Int) := by omega
                      have hc := IH (b' - (mid + 1)) (by omega) K5 bx D4 (mid + 1) b' lim (by omega) he5 (by have := hF5.ro; have := hF5.size; omega) (by omega) (by omega) (by omega) q5
                      rw [SV, sD4] at hc
                      simp (disch := omega) only [go_sem, Nat.reduceEqDiff, Nat.reduceAdd, ↓reduceIte, get_pushB, get_putB, pickB_t, pickB_f, eqB_t, eqB_f, ltB_t, leB_t, AH.size_push, AH.size_put, AH.ro_push, AH.ro_put, em]
                      refine callW_of hc ?_
                      rintro r K6 ⟨rfl, he6, hF6⟩
                      clear hc
                      obtain ⟨r1, r2⟩ := Sort.pdq_sorts ltS swoS D4 (mid + 1) b' lim true true (by omega) (by omega) q5
                      obtain ⟨r3, -⟩ := q7 _ r1 r2
                      have ed : decide (((l / 8 : Nat) : Int) ≤ ((b' - mid : Nat) : Int)) = decide (b' - mid ≥ (b' - a') / 8) := by rw [← hl]; exact decide_eq_decide.2 (by omega)
                      simp (disch := omega) only [go_sem, Nat.reduceEqDiff, Nat.reduceAdd, ↓reduceIte, get_pushB, get_putB, pickB_t, pickB_f, eqB_t, eqB_f, ltB_t, leB_t, AH.size_push, AH.size_put, AH.ro_push, AH.ro_put]
                      refine ih _ _ _ ?_ ⟨a', mid, lim, decide (b' - mid ≥ (b' - a') / 8), ap, _, _, _, _, _, _, _, _, _, _, by omega, by omega, by omega, by omega, rfl, he6, r1.1.trans sD4, r3, pR.symm.trans hspec, hF5.trans hF6, by rw [← ed]⟩
                      omega
                · have hor : a' = 0 ∨ ltS D[a' - 1]! D[P]! = true := .inl (by omega)
                  have heK := he4
                  have hFK := hF4
                  simp (disch := omega) only [go_sem, Nat.reduceEqDiff, Nat.reduceAdd, ↓reduceIte, get_pushB, get_putB, pickB_t, pickB_f, eqB_t, eqB_f, ltB_t, leB_t, AH.size_push, AH.size_put, AH.ro_push, AH.ro_put]
                  have hpt := Sort.partition_holds ltS swoS D a' b' P hP1 hP2 (by omega)
                  obtain ⟨q1, q2, q3, q4, q5, q6, q7⟩ := Sort.round_part swoS (Sort.partition_holds ltS) hP1 hP2 (by omega) hBD (show Sort.partition ltS D a' b' P = ((Sort.partition ltS D a' b' P).1, (Sort.partition ltS D a' b' P).2.1, (Sort.partition ltS D a' b' P).2.2) from rfl)
                  have hc := partition_ok _ bx D a' b' P heK (by omega) (by omega) hP2
                  rw [SV, sD] at hc
                  refine callW_of hc ?_
                  rintro r K5 ⟨rfl, he5, hF5⟩
                  clear hc
                  have hF5 := hFK.trans hF5
                  have pL := @pdqL e D a' b' lim P lim true true (by omega) (by omega) hpi hPe hLe hor ⟨q1, q2⟩
                  have pR := @pdqR e D a' b' lim P lim true true (by omega) (by omega) hpi hPe hLe hor ⟨q1, q2⟩
                  obtain ⟨mid, hmid⟩ : ∃ m, m = (Sort.partition ltS D a' b' P).1 := ⟨_, rfl⟩
                  obtain ⟨ap, hap⟩ : ∃ m, m = (Sort.partition ltS D a' b' P).2.1 := ⟨_, rfl⟩
                  obtain ⟨D4, hD4⟩ : ∃ m, m = (Sort.partition ltS D a' b' P).2.2 := ⟨_, rfl⟩
                  rw [← hmid, ← hap, ← hD4] at pL pR
                  rw [← hmid] at q1 q2 q4 q5 q6 q7
                  rw [← hD4] at q3 q4 q5 q6 q7 he5
                  rw [← hmid, ← hap]
                  have el1 : (mid : Int) - a' = ((mid - a' : Nat) : Int) := by omega
                  have el2 : (b' : Int) - mid = ((b' - mid : Nat) : Int) := by omega
                  have q8 : IntKind.i64.wrap ((l : Int).tdiv 8) = ((l / 8 : Nat) : Int) := by rw [IntWalk.i64_quo _ _ ⟨by omega, by omega, by omega⟩]; omega
                  have sD4 : D4.size = d.size := by rw [q3, sD]
                  simp (disch := omega) only [go_sem, Nat.reduceEqDiff, Nat.reduceAdd, ↓reduceIte, get_pushB, get_putB, pickB_t, pickB_f, eqB_t, eqB_f, ltB_t, leB_t, AH.size_push, AH.size_put, AH.ro_push, AH.ro_put, el1, el2, q8]
                  refine ⟨by decide, Split.mk (fun m1 => ?_) (fun m1 => ?_)⟩
                  · have pL := pL (by omega)
                    have hc := IH (mid - a') (by omega) K5 bx D4 a' mid lim (by omega) he5 (by have := hF5.ro; have := hF5.size; omega) q1 (by omega) (by omega) q4
                    rw [SV, sD4] at hc
                    simp (disch := omega) only [go_sem, Nat.reduceEqDiff, Nat.reduceAdd, ↓reduceIte, get_pushB, get_putB, pickB_t, pickB_f, eqB_t, eqB_f, ltB_t, leB_t, AH.size_push, AH.size_put, AH.ro_push, AH.ro_put]
                    refine callW_of hc ?_
                    rintro r K6 ⟨rfl, he6, hF6⟩
                    clear hc
                    obtain ⟨r1, r2⟩ := Sort.pdq_sorts ltS swoS D4 a' mid lim true true q1 (by omega) q4
                    obtain ⟨r3, -⟩ := q6 _ r1 r2
                    have ed : decide (((l / 8 : Nat) : Int) ≤ ((mid - a' : Nat) : Int)) = decide (mid - a' ≥ (b' - a') / 8) := by rw [← hl]; exact decide_eq_decide.2 (by omega)
                    simp (disch := omega) only [go_sem, Nat.reduceEqDiff, Nat.reduceAdd, ↓reduceIte, get_pushB, get_putB, pickB_t, pickB_f, eqB_t, eqB_f, ltB_t, leB_t, AH.size_push, AH.size_put, AH.ro_push, AH.ro_put]
                    refine ih _ _ _ ?_ ⟨mid + 1, b', lim, decide (mid - a' ≥ (b' - a') / 8), ap, _, _, _, _, _, _, _, _, _, _, by omega, by omega, by omega, by omega, rfl, he6, r1.1.trans sD4, r3, pL.symm.trans hspec, hF5.trans hF6, by rw [← ed]; simp only [Int.natCast_add]; rfl⟩
                    omega
                  · have pR := pR (by omega)
                    have em : (mid : Int) + 1 = ((mid + 1 : Nat) : Int) := by omega
                    have hc := IH (b' - (mid + 1)) (by omega) K5 bx D4 (mid + 1) b' lim (by omega) he5 (by have := hF5.ro; have := hF5.size; omega) (by omega) (by omega) (by omega) q5
                    rw [SV, sD4] at hc
                    simp (disch := omega) only [go_sem, Nat.reduceEqDiff, Nat.reduceAdd, ↓reduceIte, get_pushB, get_putB, pickB_t, pickB_f, eqB_t, eqB_f, ltB_t, leB_t, AH.size_push, AH.size_put, AH.ro_push, AH.ro_put, em]
                    refine callW_of hc ?_
                    rintro r K6 ⟨rfl, he6, hF6⟩
                    clear hc
                    obtain ⟨r1, r2⟩ := Sort.pdq_sorts ltS swoS D4 (mid + 1) b' lim true true (by omega) (by omega) q5
                    obtain ⟨r3, -⟩ := q7 _ r1 r2
                    have ed : decide (((l / 8 : Nat) : Int) ≤ ((b' - mid : Nat) : Int)) = decide (b' - mid ≥ (b' - a') / 8) := by rw [← hl]; exact decide_eq_decide.2 (by omega)
                    simp (disch := omega) only [go_sem, Nat.reduceEqDiff, Nat.reduceAdd, ↓reduceIte, get_pushB, get_putB, pickB_t, pickB_f, eqB_t, eqB_f, ltB_t, leB_t, AH.size_push, AH.size_put, AH.ro_push, AH.ro_put]
                    refine ih _ _ _ ?_ ⟨a', mid, lim, decide (b' - mid ≥ (b' - a') / 8), ap, _, _, _, _, _, _, _, _, _, _, by omega, by omega, by omega, by omega, rfl, he6, r1.1.trans sD4, r3, pR.symm.trans hspec, hF5.trans hF6, by rw [← ed]⟩
                    omega
              · rw [Sort.pdq_done (by omega) (by omega) (by rw [hpi0]), hpi0] at hspec
                simp (disch := omega) only [go_sem, Nat.reduceEqDiff, Nat.reduceAdd, ↓reduceIte, get_pushB, get_putB, pickB_t, pickB_f, eqB_t, eqB_f, ltB_t, leB_t, AH.size_push, AH.size_put, AH.ro_push, AH.ro_put]
                rw [← hspec]
                exact ⟨he4, hF4⟩
end Go.Proofs.A

/- Sorting: SortFunc. -/
set_option linter.unusedVariables false
set_option maxRecDepth 8000
set_option maxHeartbeats 4000000
set_option linter.unusedSimpArgs false
namespace Go.Proofs.A
open Go Go.Ab
theorem SortFunc_ok (H : AH) (bx : Nat) (d : Array Sp) (h : SpAt H bx d) (hr0 : H.ro ≤ H.size) :
    Runs tb 32 [SV bx d, cmpV] H (fun r H' => r = .tuple #[] ∧ SpAt H' bx (Sort.sort ltS d) ∧ Fr bx H H') := by
  have hbd := h.bd
  have hw : IntKind.u64.wrap (d.size : Int) = (d.size : Int) := by rw [IntKind.wrap_u64]; omega
  have hb : Sort.bitsLen d.size ≤ 30 := (Sort.bitsLen_le_iff d.size 30).2 (by omega)
  have hc := pdq_ok d.size H bx d 0 d.size (Sort.bitsLen d.size) (by omega) h hr0 (by omega) (by omega) (by omega) (.inl rfl)
  unfold SV
  unfold SV at hc
  refine Runs_fn (fn := Try.f32) [] [0, 1, 4] [] 3000 (by kernel_rfl) rfl (by kernel_rfl) (by kernel_rfl) rfl ?_; simp only [pad, argAt]
  simp (disch := omega) only [go_sem, Nat.reduceEqDiff, Nat.reduceAdd, ↓reduceIte, get_pushB, get_putB, pickB_t, pickB_f, eqB_t, eqB_f, ltB_t, leB_t, AH.size_push, AH.size_put, AH.ro_push, AH.ro_put, hw]
  refine callW_of (Len_ok _ d.size (by omega)) ?_
  rintro r G ⟨rfl, rfl⟩
  simp (disch := omega) only [go_sem, Nat.reduceEqDiff, Nat.reduceAdd, ↓reduceIte, get_pushB, get_putB, pickB_t, pickB_f, eqB_t, eqB_f, ltB_t, leB_t, AH.size_push, AH.size_put, AH.ro_push, AH.ro_put]
  refine callW_of hc ?_
  rintro r H2 ⟨rfl, he, hF⟩
  simp (disch := omega) only [go_sem, Nat.reduceEqDiff, Nat.reduceAdd, ↓reduceIte, get_pushB, get_putB, pickB_t, pickB_f, eqB_t, eqB_f, ltB_t, leB_t, AH.size_push, AH.size_put, AH.ro_push, AH.ro_put]
  exact ⟨he, hF⟩
theorem sort_spec (d : Array Sp) : Sort.PermIn 0 d.size d (Sort.sort ltS d) ∧ Sort.SortedIn ltS 0 d.size (Sort.sort ltS d) := Sort.sort_sorts ltS swoS d
end Go.Proofs.A

/- Arena: gap, places. -/
set_option linter.unusedVariables false
set_option maxRecDepth 8000
set_option maxHeartbeats 4000000
set_option linter.unusedSimpArgs false
namespace Go.Proofs.A
open Go Go.Ab
/-- The best gap so far: where the last one ends, the best's begin (below 0: none), its length. -/
def gapS (size : Int) (st : Int × Int × Int) (s : Sp) : Int × Int × Int :=
  if size ≤ s.1 - st.1 ∧ (st.2.1 < 0 ∨ s.1 - st.1 < st.2.2) then (s.2, st.1, s.1 - st.1) else (s.2, st.2.1, st.2.2)
def gapL (size : Int) (l : List Sp) : Int × Int × Int := l.foldl (gapS size) (0, -1, 0)
def gapF (size : Int) (l : List Sp) : Int := if (gapL size l).2.1 < 0 then (gapL size l).1 else (gapL size l).2.1
/-- A row of spans: none, or a block. -/
inductive SpV (H : AH) : Value → Array Sp → Prop
  | nil : SpV H (.slice none 0 0) #[]
  | mk (bx : Nat) (d : Array Sp) (h : SpAt H bx d) : SpV H (SV bx d) d
def SpB (d : Array Sp) : Prop := ∀ x ∈ d, 0 ≤ x.1 ∧ x.1 ≤ 1000000000000 ∧ 0 ≤ x.2 ∧ x.2 ≤ 1000000000000
theorem gapL_step (size : Int) (d : Array Sp) (j : Nat) (h : j < d.size) : gapL size (d.toList.take (j + 1)) = gapS size (gapL size (d.toList.take j)) d[j]! := by
  have e : d.toList.take (j + 1) = d.toList.take j ++ [d[j]!] := by
    rw [List.take_add_one, bang h]; simp [h]
  rw [gapL, e, List.foldl_append]; rfl
theorem gap_bd (size : Int) (hs : 0 ≤ size) (l : List Sp) (hB : ∀ x ∈ l, 0 ≤ x.1 ∧ x.1 ≤ 1000000000000 ∧ 0 ≤ x.2 ∧ x.2 ≤ 1000000000000) :
    0 ≤ (gapL size l).1 ∧ (gapL size l).1 ≤ 1000000000000 ∧ -1 ≤ (gapL size l).2.1 ∧ (gapL size l).2.1 ≤ 1000000000000 ∧ 0 ≤ (gapL size l).2.2 ∧ (gapL size l).2.2 ≤ 1000000000000 := by
  have H : ∀ (l : List Sp) (st : Int × Int × Int), (∀ x ∈ l, 0 ≤ x.1 ∧ x.1 ≤ 1000000000000 ∧ 0 ≤ x.2 ∧ x.2 ≤ 1000000000000) → (0 ≤ st.1 ∧ st.1 ≤ 1000000000000 ∧ -1 ≤ st.2.1 ∧ st.2.1 ≤ 1000000000000 ∧ 0 ≤ st.2.2 ∧ st.2.2 ≤ 1000000000000) →
      (0 ≤ (l.foldl (gapS size) st).1 ∧ (l.foldl (gapS size) st).1 ≤ 1000000000000 ∧ -1 ≤ (l.foldl (gapS size) st).2.1 ∧ (l.foldl (gapS size) st).2.1 ≤ 1000000000000 ∧ 0 ≤ (l.foldl (gapS size) st).2.2 ∧ (l.foldl (gapS size) st).2.2 ≤ 1000000000000) := by
    intro l
    induction l with
    | nil => intro st _ h; exact h
    | cons x xs ih =>
      intro st hx h
      have hx0 := hx x (by simp)
      rw [List.foldl_cons]
      refine ih _ (fun y hy => hx y (by simp [hy])) ?_
      unfold gapS
      split <;> simp only [] <;> omega
  exact H l _ hB (by simp)
theorem gap_ok (H : AH) (v : Value) (d : Array Sp) (size : Int) (h : SpV H v d) (hB : SpB d) (hs : 0 ≤ size ∧ size ≤ 1000000000000) (hr0 : H.ro ≤ H.size) :
    Runs tb 35 [v, .int .i64 size] H (fun r H' => r = .int .i64 (gapF size d.toList) ∧ Ext H H') := by
  cases h with
  | nil =>
    refine Runs_fn (fn := Try.f35) [.tmp 4] [0, 1, 4, 5, 6, 7, 9, 10, 11, 12, 13] [] 3000 (by kernel_rfl) rfl (by kernel_rfl) (by kernel_rfl) rfl ?_; simp only [pad, argAt]
    simp (disch := omega) only [go_sem, Nat.reduceEqDiff, Nat.reduceAdd, ↓reduceIte, get_pushB, get_putB, pickB_t, pickB_f, eqB_t, eqB_f, ltB_t, leB_t, AH.size_push, AH.size_put, AH.ro_push, AH.ro_put]
    refine Sat_loop 3000 (fun k K V => K = H ∧ V = [.slice none 0 0, .int .i64 size, .int .i64 0, .int .i64 0, .int .i64 (-1), .int .i64 0, undef, undef, .slice none 0 0, .int .i64 0, .int .i64 0]) 0 ⟨rfl, rfl⟩ ?_
    rintro k K V ⟨rfl, rfl⟩ ih
    simp (disch := omega) only [go_sem, Nat.reduceEqDiff, Nat.reduceAdd, ↓reduceIte, get_pushB, get_putB, pickB_t, pickB_f, eqB_t, eqB_f, ltB_t, leB_t, AH.size_push, AH.size_put, AH.ro_push, AH.ro_put]
    exact ⟨rfl, Ext.refl _⟩
  | mk bx d h =>
    have hbd := h.bd
    unfold SV
    refine Runs_fn (fn := Try.f35) [.tmp 4] [0, 1, 4, 5, 6, 7, 9, 10, 11, 12, 13] [] 3000 (by kernel_rfl) rfl (by kernel_rfl) (by kernel_rfl) rfl ?_; simp only [pad, argAt]
    simp (disch := omega) only [go_sem, Nat.reduceEqDiff, Nat.reduceAdd, ↓reduceIte, get_pushB, get_putB, pickB_t, pickB_f, eqB_t, eqB_f, ltB_t, leB_t, AH.size_push, AH.size_put, AH.ro_push, AH.ro_put]
    refine Sat_loop 3000 (fun k K V => ∃ (j : Nat) (x9 x10 : Value), j ≤ d.size ∧ k = d.size - j ∧ Ext H K ∧ V = [.slice (some ⟨bx, 0, none⟩) d.size 2, .int .i64 size, .int .i64 0, .int .i64 (gapL size (d.toList.take j)).1, .int .i64 (gapL size (d.toList.take j)).2.1, .int .i64 (gapL size (d.toList.take j)).2.2, x9, x10, .slice (some ⟨bx, 0, none⟩) d.size 2, .int .i64 d.size, .int .i64 j]) d.size ⟨0, _, _, by omega, rfl, Ext.refl _, rfl⟩ ?_
    rintro k K V ⟨j, x9, x10, hj, rfl, hE, rfl⟩ ih
    obtain ⟨b1, b2, b3, b4, b5, b6⟩ := gap_bd size hs.1 (d.toList.take j) (fun x hx => hB x (by simpa using List.mem_of_mem_take hx))
    have hst := gapL_step size d j
    obtain ⟨S, hS⟩ : ∃ S, S = gapL size (d.toList.take j) := ⟨_, rfl⟩
    rw [← hS] at b1 b2 b3 b4 b5 b6 hst ⊢
    obtain ⟨en, be, le⟩ := S
    simp only [] at b1 b2 b3 b4 b5 b6
    simp (disch := omega) only [go_sem, Nat.reduceEqDiff, Nat.reduceAdd, ↓reduceIte, get_pushB, get_putB, pickB_t, pickB_f, eqB_t, eqB_f, ltB_t, leB_t, AH.size_push, AH.size_put, AH.ro_push, AH.ro_put]
    refine Split.mk (fun h1 => ?_) (fun h1 => ?_)
    · have hlt : j < d.size := by omega
      have hx0 := hB d[j]! (by rw [bang hlt]; exact Array.getElem_mem hlt)
      have hst := hst hlt
      have x1 := sp_ix bx d.size (j : Int) (by omega) .i64
      have k1 := sp_ld (h.ext hE) (j : Int) (by omega)
      simp only [Int.toNat_natCast] at k1
      obtain ⟨x, hx⟩ : ∃ x, x = d[j]! := ⟨_, rfl⟩
      rw [← hx] at hx0 hst k1
      have hrK : K.ro ≤ K.size := by have := hE.ro; have := hE.size; omega
      simp (disch := omega) only [go_sem, Nat.reduceEqDiff, Nat.reduceAdd, ↓reduceIte, get_pushB, get_putB, pickB_t, pickB_f, eqB_t, eqB_f, ltB_t, leB_t, AH.size_push, AH.size_put, AH.ro_push, AH.ro_put, x1, k1, spv]
      refine SplitG.mk (fun g1 => ?_) (fun g1 => ?_)
      · simp (disch := omega) only [go_sem, Nat.reduceEqDiff, Nat.reduceAdd, ↓reduceIte, get_pushB, get_putB, pickB_t, pickB_f, eqB_t, eqB_f, ltB_t, leB_t, AH.size_push, AH.size_put, AH.ro_push, AH.ro_put]
        refine SplitG.mk (fun g2 => ?_) (fun g2 => ?_)
        · simp (disch := omega) only [go_sem, Nat.reduceEqDiff, Nat.reduceAdd, ↓reduceIte, get_pushB, get_putB, pickB_t, pickB_f, eqB_t, eqB_f, ltB_t, leB_t, AH.size_push, AH.size_put, AH.ro_push, AH.ro_put]
          refine ih _ _ _ ?_ ⟨j + 1, _, _, by omega, rfl, hE.trans ((Fr.put K.size _ (by simp) _).ext (Ext.push K _) (Nat.le_refl _)), by rw [hst, gapS, if_pos ⟨g1, Or.inl g2⟩]; simp only [Int.natCast_add]; rfl⟩
          omega
        · simp (disch := omega) only [go_sem, Nat.reduceEqDiff, Nat.reduceAdd, ↓reduceIte, get_pushB, get_putB, pickB_t, pickB_f, eqB_t, eqB_f, ltB_t, leB_t, AH.size_push, AH.size_put, AH.ro_push, AH.ro_put]
          refine Split.mk (fun g3 => ?_) (fun g3 => ?_)
          · simp (disch := omega) only [go_sem, Nat.reduceEqDiff, Nat.reduceAdd, ↓reduceIte, get_pushB, get_putB, pickB_t, pickB_f, eqB_t, eqB_f, ltB_t, leB_t, AH.size_push, AH.size_put, AH.ro_push, AH.ro_put]
            refine ih _ _ _ ?_ ⟨j + 1, _, _, by omega, rfl, hE.trans ((Fr.put K.size _ (by simp) _).ext (Ext.push K _) (Nat.le_refl _)), by rw [hst, gapS, if_pos ⟨g1, Or.inr g3⟩]; simp only [Int.natCast_add]; rfl⟩
            omega
          · simp (disch := omega) only [go_sem, Nat.reduceEqDiff, Nat.reduceAdd, ↓reduceIte, get_pushB, get_putB, pickB_t, pickB_f, eqB_t, eqB_f, ltB_t, leB_t, AH.size_push, AH.size_put, AH.ro_push, AH.ro_put]
            refine ih _ _ _ ?_ ⟨j + 1, _, _, by omega, rfl, hE.trans ((Fr.put K.size _ (by simp) _).ext (Ext.push K _) (Nat.le_refl _)), by rw [hst, gapS, if_neg (by simp only []; omega)]; simp only [Int.natCast_add]; rfl⟩
            omega
      · simp (disch := omega) only [go_sem, Nat.reduceEqDiff, Nat.reduceAdd, ↓reduceIte, get_pushB, get_putB, pickB_t, pickB_f, eqB_t, eqB_f, ltB_t, leB_t, AH.size_push, AH.size_put, AH.ro_push, AH.ro_put]
        refine ih _ _ _ ?_ ⟨j + 1, _, _, by omega, rfl, hE.trans ((Fr.put K.size _ (by simp) _).ext (Ext.push K _) (Nat.le_refl _)), by rw [hst, gapS, if_neg (by simp only []; omega)]; simp only [Int.natCast_add]; rfl⟩
        omega
    · obtain rfl : j = d.size := by omega
      rw [List.take_of_length_le (by simp)] at hS
      simp (disch := omega) only [go_sem, Nat.reduceEqDiff, Nat.reduceAdd, ↓reduceIte, get_pushB, get_putB, pickB_t, pickB_f, eqB_t, eqB_f, ltB_t, leB_t, AH.size_push, AH.size_put, AH.ro_push, AH.ro_put]
      have hg : gapF size d.toList = if be < 0 then en else be := by unfold gapF; rw [← hS]
      refine Split.mk (fun h2 => ?_) (fun h2 => ?_)
      · simp (disch := omega) only [go_sem, Nat.reduceEqDiff, Nat.reduceAdd, ↓reduceIte, get_pushB, get_putB, pickB_t, pickB_f, eqB_t, eqB_f, ltB_t, leB_t, AH.size_push, AH.size_put, AH.ro_push, AH.ro_put]
        rw [hg, if_pos h2]
        exact ⟨rfl, hE⟩
      · simp (disch := omega) only [go_sem, Nat.reduceEqDiff, Nat.reduceAdd, ↓reduceIte, get_pushB, get_putB, pickB_t, pickB_f, eqB_t, eqB_f, ltB_t, leB_t, AH.size_push, AH.size_put, AH.ro_push, AH.ro_put]
        rw [hg, if_neg h2]
        exact ⟨rfl, hE⟩
end Go.Proofs.A

/- Arena: sorting nothing; lives. -/
set_option linter.unusedVariables false
set_option maxRecDepth 8000
set_option maxHeartbeats 4000000
set_option linter.unusedSimpArgs false
namespace Go.Proofs.A
open Go Go.Ab
theorem insertion_nil (H : AH) : Runs tb 40 [.slice none 0 0, .int .i64 0, .int .i64 0, cmpV] H (fun r H' => r = .tuple #[] ∧ H' = H) := by
  refine Runs_fn (fn := Try.f40) [] [0, 1, 2, 3, 8, 9] [] 3000 (by kernel_rfl) rfl (by kernel_rfl) (by kernel_rfl) rfl ?_; simp only [pad, argAt]
  simp (disch := omega) only [go_sem, Nat.reduceEqDiff, Nat.reduceAdd, ↓reduceIte, get_pushB, get_putB, pickB_t, pickB_f, eqB_t, eqB_f, ltB_t, leB_t, AH.size_push, AH.size_put, AH.ro_push, AH.ro_put]
  refine Sat_loop 3000 (fun k K V => ∃ x5, K = H ∧ V = [.slice none 0 0, .int .i64 0, .int .i64 0, cmpV, .int .i64 1, x5]) 0 ⟨_, rfl, rfl⟩ ?_
  rintro k K V ⟨x5, rfl, rfl⟩ ih
  simp (disch := omega) only [go_sem, Nat.reduceEqDiff, Nat.reduceAdd, ↓reduceIte, get_pushB, get_putB, pickB_t, pickB_f, eqB_t, eqB_f, ltB_t, leB_t, AH.size_push, AH.size_put, AH.ro_push, AH.ro_put]
theorem pdq_nil (H : AH) : Runs tb 37 [.slice none 0 0, .int .i64 0, .int .i64 0, .int .i64 0, cmpV] H (fun r H' => r = .tuple #[] ∧ H' = H) := by
  refine Runs_fn (fn := Try.f37) [] [0, 1, 2, 3, 4, 10, 11, 12, 13, 14, 15, 16, 17, 18, 19, 20] [] 3000 (by kernel_rfl) rfl (by kernel_rfl) (by kernel_rfl) rfl ?_; simp only [pad, argAt]
  simp (disch := omega) only [go_sem, Nat.reduceEqDiff, Nat.reduceAdd, ↓reduceIte, get_pushB, get_putB, pickB_t, pickB_f, eqB_t, eqB_f, ltB_t, leB_t, AH.size_push, AH.size_put, AH.ro_push, AH.ro_put]
  refine Sat_loop 3000 (fun k K V => ∃ x12 x13 x14 x15 x16 x17 x18 x19 x20, K = H ∧ V = [.slice none 0 0, .int .i64 0, .int .i64 0, .int .i64 0, cmpV, .bool true, .bool true, x12, x13, x14, x15, x16, x17, x18, x19, x20]) 0 ⟨_, _, _, _, _, _, _, _, _, rfl, rfl⟩ ?_
  rintro k K V ⟨x12, x13, x14, x15, x16, x17, x18, x19, x20, rfl, rfl⟩ ih
  simp (disch := omega) only [go_sem, Nat.reduceEqDiff, Nat.reduceAdd, ↓reduceIte, get_pushB, get_putB, pickB_t, pickB_f, eqB_t, eqB_f, ltB_t, leB_t, AH.size_push, AH.size_put, AH.ro_push, AH.ro_put]
  refine callW_of (insertion_nil K) ?_
  rintro r G ⟨rfl, rfl⟩
  simp (disch := omega) only [go_sem, Nat.reduceEqDiff, Nat.reduceAdd, ↓reduceIte, get_pushB, get_putB, pickB_t, pickB_f, eqB_t, eqB_f, ltB_t, leB_t, AH.size_push, AH.size_put, AH.ro_push, AH.ro_put]
theorem SortFunc_nil (H : AH) : Runs tb 32 [.slice none 0 0, cmpV] H (fun r H' => r = .tuple #[] ∧ H' = H) := by
  refine Runs_fn (fn := Try.f32) [] [0, 1, 4] [] 3000 (by kernel_rfl) rfl (by kernel_rfl) (by kernel_rfl) rfl ?_; simp only [pad, argAt]
  simp (disch := omega) only [go_sem, Nat.reduceEqDiff, Nat.reduceAdd, ↓reduceIte, get_pushB, get_putB, pickB_t, pickB_f, eqB_t, eqB_f, ltB_t, leB_t, AH.size_push, AH.size_put, AH.ro_push, AH.ro_put]
  refine callW_of (Len_ok _ 0 (by omega)) ?_
  rintro r G ⟨rfl, rfl⟩
  simp (disch := omega) only [go_sem, Nat.reduceEqDiff, Nat.reduceAdd, ↓reduceIte, get_pushB, get_putB, pickB_t, pickB_f, eqB_t, eqB_f, ltB_t, leB_t, AH.size_push, AH.size_put, AH.ro_push, AH.ro_put]
  refine callW_of (pdq_nil _) ?_
  rintro r H2 ⟨rfl, rfl⟩
  simp (disch := omega) only [go_sem, Nat.reduceEqDiff, Nat.reduceAdd, ↓reduceIte, get_pushB, get_putB, pickB_t, pickB_f, eqB_t, eqB_f, ltB_t, leB_t, AH.size_push, AH.size_put, AH.ro_push, AH.ro_put]
end Go.Proofs.A

/- The seat's rows of numbers. -/
set_option linter.unusedVariables false
set_option maxRecDepth 8000
set_option maxHeartbeats 4000000
set_option linter.unusedSimpArgs false
namespace Go.Proofs.A
open Go Go.Ab
attribute [go_sem] IntWalk.i64_in
theorem stI : STy tb 23 3 1 := ⟨_, _, ty23, rfl, ty3, rfl, by decide, rfl, by decide, by decide, fun _ => rfl, fun h => absurd rfl h⟩
section
variable {H : AH} {a : Option Addr} {n c : Nat}
theorem ixI {l : List Int} (h : Ints H (.slice a n c) l) (k : IntKind) (z : Int) (hz : 0 ≤ z ∧ z < l.length) : aindex tb 23 (.slice a n c) (.int k z) = some (elp a c z 0) := h.ix ty23 rfl ty3 rfl k z hz
theorem ldI {l : List Int} (h : Ints H (.slice a n c) l) (z : Int) (hz : 0 ≤ z ∧ z < l.length) : aload tb 3 (elp a c z 0) H.get = some (.int .i64 (gi l z)) := h.ld1 ty3 rfl z 0 (h.cell z hz)
end
theorem EqNumbers_ok (H : AH) (a b : List Int) (va vb : Value) (ha : Ints H va a) (hb : Ints H vb b) : Runs tb 19 [va, vb] H (fun r H' => r = .bool (decide (a = b)) ∧ H' = H) := by
  have bd := ha.bd
  obtain ⟨p, c, rfl⟩ := ha.inv
  obtain ⟨q, d, rfl⟩ := hb.inv
  refine Runs_fn (fn := Try.f19) [.tmp 4] [0, 1, 4, 5] [] 3000 (by kernel_rfl) rfl (by kernel_rfl) (by kernel_rfl) rfl ?_; simp only [pad, argAt]
  simp (disch := omega) only [go_sem, Nat.reduceEqDiff, Nat.reduceAdd, ↓reduceIte]
  refine Split.mk (fun hl => ?_) (fun hl => ?_)
  · simp (disch := omega) only [go_sem, Nat.reduceEqDiff, Nat.reduceAdd, ↓reduceIte]
    refine ⟨?_, trivial⟩
    congr 1; symm; rw [decide_eq_false_iff_not]; rintro rfl; exact hl rfl
  · simp (disch := omega) only [go_sem, Nat.reduceEqDiff, Nat.reduceAdd, ↓reduceIte]
    refine Sat_loop 3000 (fun k H' V => ∃ i : Nat, i ≤ a.length ∧ k = a.length - i ∧ (∀ j, j < i → a[j]? = b[j]?) ∧ V = [.slice p a.length c, .slice q b.length d, .bool false, .int .i64 i] ∧ H' = H) a.length ⟨0, by omega, by omega, by omega, rfl, rfl⟩ ?_
    rintro k H' V ⟨i, hi, rfl, hj, rfl, rfl⟩ ih
    simp (disch := omega) only [go_sem, Nat.reduceEqDiff, Nat.reduceAdd, ↓reduceIte]
    refine Split.mk (fun h1 => ?_) (fun h1 => ?_)
    · simp (disch := omega) only [go_sem, Nat.reduceEqDiff, Nat.reduceAdd, ↓reduceIte, ixI ha, ixI hb, ldI ha, ldI hb]
      refine Split.mk (fun h2 => ?_) (fun h2 => ?_)
      · simp (disch := omega) only [go_sem, Nat.reduceEqDiff, Nat.reduceAdd, ↓reduceIte]
        refine ⟨?_, trivial⟩
        congr 1; symm; rw [decide_eq_false_iff_not]; rintro rfl; exact h2 rfl
      · simp (disch := omega) only [go_sem, Nat.reduceEqDiff, Nat.reduceAdd, ↓reduceIte]
        refine ih _ _ _ ?_ ⟨i+1, ?_, rfl, ?_, rfl, rfl⟩
        · omega
        · omega
        · intro j hj'
          by_cases e : j < i
          · exact hj j e
          · obtain rfl : j = i := by omega
            have h3 : j < a.length := by omega
            have h4 : j < b.length := by omega
            simpa [gi, List.getD_eq_getElem?_getD, h3, h4] using h2
    · simp (disch := omega) only [go_sem, Nat.reduceEqDiff, Nat.reduceAdd, ↓reduceIte]
      refine ⟨?_, trivial⟩
      congr 1; symm; rw [decide_eq_true_eq]
      apply List.ext_getElem?
      intro j
      by_cases e : j < i
      · exact hj j e
      · rw [List.getElem?_eq_none (by omega), List.getElem?_eq_none (by omega)]
theorem Between_ok (H : AH) (n lo hi : Int) : Runs tb 28 [.int .i64 n, .int .i64 lo, .int .i64 hi] H (fun r H' => r = .bool (decide (lo ≤ n) && decide (n ≤ hi)) ∧ H' = H) := by
  refine Runs_fn (fn := Try.f28) [.tmp 6] [0, 1, 2, 6] [] 3000 (by kernel_rfl) rfl (by kernel_rfl) (by kernel_rfl) rfl ?_; simp only [pad, argAt]
  simp (disch := omega) only [go_sem, Nat.reduceEqDiff, Nat.reduceAdd, ↓reduceIte]
  refine SplitG.mk (fun h1 => ?_) (fun h1 => ?_)
  · simp (disch := omega) only [go_sem, Nat.reduceEqDiff, Nat.reduceAdd, ↓reduceIte]
    simp [h1]
  · simp (disch := omega) only [go_sem, Nat.reduceEqDiff, Nat.reduceAdd, ↓reduceIte]
    simp [h1]
theorem IndexFuncI_ok (H : AH) (l : List Int) (v : Value) (h : Ints H v l) (g : FuncId) (caps : Array Value) (p : Nat → Bool) (hp : ∀ i, i < l.length → Runs tb g (.int .i64 (gi l i) :: caps.toList) H (fun r H' => r = .bool (p i) ∧ H' = H)) :
    Runs tb 36 [v, .func (.func g) #[] caps] H (fun r H' => r = .int .i64 (firstI p l.length) ∧ H' = H) := by
  have bd := h.bd
  obtain ⟨a, c, rfl⟩ := h.inv
  refine Runs_fn (fn := Try.f36) [.tmp 4] [0, 1, 4, 5, 7, 8] [] 3000 (by kernel_rfl) rfl (by kernel_rfl) (by kernel_rfl) rfl ?_; simp only [pad, argAt]
  simp (disch := omega) only [go_sem, Nat.reduceEqDiff, Nat.reduceAdd, ↓reduceIte]
  refine Sat_loop 3000 (fun k H' V => ∃ (i : Nat) (x : Value), i ≤ l.length ∧ k = l.length - i ∧ (∀ j, j < i → p j = false) ∧ V = [.slice a l.length c, .func (.func g) #[] caps, .int .i64 0, x, .int .i64 l.length, .int .i64 i] ∧ H' = H) l.length ⟨0, _, by omega, by omega, by omega, rfl, rfl⟩ ?_
  rintro k H' V ⟨i, x, hi, rfl, hj, rfl, rfl⟩ ih
  simp (disch := omega) only [go_sem, Nat.reduceEqDiff, Nat.reduceAdd, ↓reduceIte]
  refine Split.mk (fun h1 => ?_) (fun h1 => ?_)
  · simp (disch := omega) only [go_sem, Nat.reduceEqDiff, Nat.reduceAdd, ↓reduceIte, ixI h, ldI h]
    refine callW_of (hp i (by omega)) ?_
    rintro r H1 ⟨rfl, rfl⟩
    simp (disch := omega) only [go_sem, Nat.reduceEqDiff, Nat.reduceAdd, ↓reduceIte]
    refine Split.mk (fun h2 => ?_) (fun h2 => ?_)
    · simp (disch := omega) only [go_sem, Nat.reduceEqDiff, Nat.reduceAdd, ↓reduceIte]
      refine ⟨?_, trivial⟩
      rw [firstI_at (by omega) h2 hj]
    · simp (disch := omega) only [go_sem, Nat.reduceEqDiff, Nat.reduceAdd, ↓reduceIte]
      refine ih _ _ _ ?_ ⟨i+1, .int .i64 i, ?_, rfl, ?_, rfl, rfl⟩
      · omega
      · omega
      · intro j hj'
        by_cases e : j < i
        · exact hj j e
        · obtain rfl : j = i := by omega
          simpa using h2
  · simp (disch := omega) only [go_sem, Nat.reduceEqDiff, Nat.reduceAdd, ↓reduceIte]
    refine ⟨?_, trivial⟩
    rw [firstI_none fun j hj' => hj j (by omega)]
theorem ContainsFuncI_ok (H : AH) (l : List Int) (v : Value) (h : Ints H v l) (g : FuncId) (caps : Array Value) (p : Nat → Bool) (hp : ∀ i, i < l.length → Runs tb g (.int .i64 (gi l i) :: caps.toList) H (fun r H' => r = .bool (p i) ∧ H' = H)) :
    Runs tb 30 [v, .func (.func g) #[] caps] H (fun r H' => r = .bool (decide (∃ i, i < l.length ∧ p i = true)) ∧ H' = H) := by
  refine Runs_fn (fn := Try.f30) [.tmp 4] [0, 1, 4] [] 3000 (by kernel_rfl) rfl (by kernel_rfl) (by kernel_rfl) rfl ?_; simp only [pad, argAt]
  simp (disch := omega) only [go_sem, Nat.reduceEqDiff, Nat.reduceAdd, ↓reduceIte]
  refine callW_of (IndexFuncI_ok H l v h g caps p hp) ?_
  rintro r H1 ⟨rfl, rfl⟩
  simp (disch := omega) only [go_sem, Nat.reduceEqDiff, Nat.reduceAdd, ↓reduceIte]
  refine ⟨?_, trivial⟩
  congr 1
  rw [decide_eq_decide]
  exact firstI_ge p l.length
def OwnI (H0 H : AH) (v : Value) (l : List Int) : Prop := Own H0 H 1 v l.length (l.map (.int .i64))
theorem OwnI.ints {H0 H : AH} {v : Value} {l : List Int} (h : OwnI H0 H v l) : Ints H v l :=
  Own.sl h rfl fun i x hx => by simp [RInt, hx]
theorem OwnI.ext {H0 H H' : AH} {v : Value} {l : List Int} (h : OwnI H0 H v l) (hE : Ext H H') : OwnI H0 H' v l := Own.ext h hE
theorem OwnI.nil (H0 H : AH) : OwnI H0 H (.slice none 0 0) [] := Own.nil
theorem OwnI.weak {H0 H1 H : AH} {v : Value} {l : List Int} (h : OwnI H1 H v l) (hs : H0.size ≤ H1.size) (hr : H1.ro = H0.ro) (h0 : H0.ro ≤ H0.size) : OwnI H0 H v l := by
  unfold OwnI at *
  generalize l.map (Value.int IntKind.i64) = xs at h
  generalize l.length = n at h
  cases h with
  | nil => exact .nil
  | mk b n xs hb hro hr' hg hl hn => exact .mk b n xs (by omega) h0 (hr'.trans hr) hg hl hn
theorem OwnI.app {H0 H : AH} {v x : Value} {l m : List Int} (h : OwnI H0 H v l) (h0 : H0.ro ≤ H0.size) (hE : Ext H0 H) (hx : alenOf x = some m.length) (hy : afirst 1 m.length x H = some (m.map (.int .i64))) (hb : (l.length + m.length) * 96 ≤ 140737488355328) :
    ∃ v' H', aappend tb 23 23 v x H = some (v', H') ∧ OwnI H0 H' v' (l ++ m) ∧ Ext H0 H' := by
  obtain ⟨v', H', e, ho, hE'⟩ := Own.append stI h h0 hE hx hy (by simp) hb
  exact ⟨v', H', e, by unfold OwnI; rw [List.length_append, List.map_append]; exact ho, hE'⟩
theorem flatMap_one {α β : Type} (f : α → β) (l : List α) : l.flatMap (fun x => [f x]) = l.map f := by
  induction l with
  | nil => rfl
  | cons x l ih => rw [List.flatMap_cons, ih]; rfl
theorem Ints.first {H : AH} {a : Option Addr} {n c : Nat} {l : List Int} (h : Ints H (.slice a n c) l) : afirst 1 n (.slice a n c) H = some (l.map (.int .i64)) := by
  have hf : ∀ (x : Int) (g : Nat → Option Value), RInt H g x → ([Value.int .i64 x] : List Value).length = 1 ∧ ∀ k, k < 1 → g k = ([Value.int .i64 x] : List Value)[k]? := fun x g hr => ⟨rfl, fun k hk => by
    obtain rfl : k = 0 := by omega
    exact hr⟩
  rw [afirst_sl h _ hf]
  rw [flatMap_one]
theorem CopyNumbers_ok (H : AH) (h0 : H.ro ≤ H.size) (l : List Int) (v : Value) (h : Ints H v l) (hb : l.length ≤ 1000000000000) : Runs tb 21 [v] H (fun r H' => OwnI H H' r l ∧ Ext H H') := by
  have bd := h.bd
  obtain ⟨p, c, rfl⟩ := h.inv
  refine Runs_fn (fn := Try.f21) [.tmp 2] [0, 2, 3, 4] [] 3000 (by kernel_rfl) rfl (by kernel_rfl) (by kernel_rfl) rfl ?_; simp only [pad, argAt]
  simp (disch := omega) only [go_sem, Nat.reduceEqDiff, Nat.reduceAdd, ↓reduceIte]
  refine Sat_loop 3000 (fun k H' V => ∃ (i : Nat) (m : Value), i ≤ l.length ∧ k = l.length - i ∧ OwnI H H' m (l.take i) ∧ Ext H H' ∧ V = [.slice p l.length c, .slice none 0 0, m, .int .i64 i]) l.length ⟨0, _, by omega, by omega, OwnI.nil _ _, Ext.refl H, rfl⟩ ?_
  rintro k H' V ⟨i, m, hi, rfl, hm, hE, rfl⟩ ih
  have h' := h.mono hE
  simp (disch := omega) only [go_sem, Nat.reduceEqDiff, Nat.reduceAdd, ↓reduceIte]
  refine Split.mk (fun h1 => ?_) (fun h1 => ?_)
  · have hi' : i < l.length := by omega
    obtain ⟨m', H2, e, ho, hE2⟩ := OwnI.app (hm.ext (Ext.push H' [.int .i64 (gi l i)])) h0 (hE.pushed _) (m := [gi l i]) (x := .slice (some ⟨H'.size, 0, none⟩) 1 1) rfl (afirst_block (by rw [AH.get_push, if_pos rfl]; rfl) rfl) (by simp; omega)
    simp (disch := omega) only [go_sem, Nat.reduceEqDiff, Nat.reduceAdd, ↓reduceIte, ixI h', ldI h', bslice_1 stI (.int .i64 (gi l i)) rfl, e]
    refine ih _ _ _ ?_ ⟨i+1, m', ?_, rfl, ?_, hE2, rfl⟩
    · omega
    · omega
    · rw [← List.take_append_getElem hi', ← gi_eq hi']; exact ho
  · simp (disch := omega) only [go_sem, Nat.reduceEqDiff, Nat.reduceAdd, ↓reduceIte]
    rw [List.take_of_length_le (by omega)] at hm
    exact ⟨hm, hE⟩
end Go.Proofs.A

/- Arena: lives. -/
set_option linter.unusedVariables false
set_option maxRecDepth 8000
set_option maxHeartbeats 4000000
set_option linter.unusedSimpArgs false
namespace Go.Proofs.A
open Go Go.Ab
structure Lf where
  f : Int
  t : Int
  s : Int
  deriving DecidableEq, Inhabited
def lfv (x : Lf) : Value := .agg #[.int .i64 x.f, .int .i64 x.t, .int .i64 x.s]
def LfR (_ : AH) (g : Nat → Option Value) (x : Lf) : Prop := g 0 = some (.int .i64 x.f) ∧ g 1 = some (.int .i64 x.t) ∧ g 2 = some (.int .i64 x.s)
abbrev Lfs (H : AH) (v : Value) (l : List Lf) : Prop := Sl 3 LfR H v l
theorem Lfs.ext {H H' : AH} {v : Value} {l : List Lf} (h : Lfs H v l) (hE : Ext H H') : Lfs H' v l := h.mono (fun f g x hfg hx => ⟨hfg _ _ hx.1, hfg _ _ hx.2.1, hfg _ _ hx.2.2⟩) hE
section
variable {H : AH} {a : Option Addr} {n c : Nat}
theorem ixL {l : List Lf} (h : Lfs H (.slice a n c) l) (k : IntKind) (z : Int) (hz : 0 ≤ z ∧ z < l.length) : aindex tb 22 (.slice a n c) (.int k z) = some (elp a c z 0) := h.ix ty22 rfl ty27 rfl k z hz
theorem cellsL {l : List Lf} (h : Lfs H (.slice a n c) l) (z : Int) (hz : 0 ≤ z ∧ z < l.length) : cell H a c z.toNat 0 = some (.int .i64 l[z.toNat]!.f) ∧ cell H a c z.toNat 1 = some (.int .i64 l[z.toNat]!.t) ∧ cell H a c z.toNat 2 = some (.int .i64 l[z.toNat]!.s) := by
  obtain ⟨x, hx, hr⟩ := h.at_ z.toNat (by omega)
  rw [show l[z.toNat]! = x by rw [List.getElem!_eq_getElem?_getD, hx]; rfl]
  exact hr
theorem ldL {l : List Lf} (h : Lfs H (.slice a n c) l) (z : Int) (hz : 0 ≤ z ∧ z < l.length) : aload tb 27 (elp a c z 0) H.get = some (lfv l[z.toNat]!) := by
  obtain ⟨h0, h1, h2⟩ := cellsL h z hz
  generalize l[z.toNat]! = x at h0 h1 h2 ⊢
  unfold cell at h0 h1 h2
  split at h0
  · rename_i b off
    split at h0
    · rename_i blk hb
      simp only [hb] at h1 h2
      obtain ⟨l1, e1⟩ := List.getElem?_eq_some_iff.1 h0
      obtain ⟨l2, e2⟩ := List.getElem?_eq_some_iff.1 h1
      obtain ⟨l3, e3⟩ := List.getElem?_eq_some_iff.1 h2
      simp only [elp, aload, ty27, hb, isAggD, if_true]
      rw [if_pos (by omega)]
      have : (blk.drop (off + z.toNat * c + 0)).take 3 = [.int .i64 x.f, .int .i64 x.t, .int .i64 x.s] := by
        apply List.ext_getElem
        · simp; omega
        · intro i hi hi'
          simp only [List.length_cons, List.length_nil] at hi'
          match i, hi' with
          | 0, _ => simp; exact e1
          | 1, _ => simp; exact e2
          | 2, _ => simp; exact e3
      rw [this]
      rfl
    · cases h0
  · cases h0
theorem faL {l : List Lf} (h : Lfs H (.slice a n c) l) (z : Int) (hz : 0 ≤ z ∧ z < l.length) : afield tb 27 (elp a c z 0) 0 = some (elp a c z 0) ∧ afield tb 27 (elp a c z 0) 1 = some (elp a c z 1) ∧ afield tb 27 (elp a c z 0) 2 = some (elp a c z 2) := by
  obtain ⟨b, off, rfl, rfl, hn⟩ := h.some_of (z := z.toNat) (by omega)
  exact ⟨fa27_0 b _, fa27_1 b _, fa27_2 b _⟩
theorem lfL {l : List Lf} (h : Lfs H (.slice a n c) l) (z : Int) (hz : 0 ≤ z ∧ z < l.length) : aload tb 3 (elp a c z 0) H.get = some (.int .i64 l[z.toNat]!.f) ∧ aload tb 3 (elp a c z 1) H.get = some (.int .i64 l[z.toNat]!.t) ∧ aload tb 3 (elp a c z 2) H.get = some (.int .i64 l[z.toNat]!.s) := by
  obtain ⟨h0, h1, h2⟩ := cellsL h z hz
  exact ⟨h.ld1 ty3 rfl z 0 h0, h.ld1 ty3 rfl z 1 h1, h.ld1 ty3 rfl z 2 h2⟩
end
/-- One life of a list may be. -/
def okL (l : List Lf) (i : Nat) : Bool := decide (0 ≤ l[i]!.f ∧ l[i]!.f < l[i]!.t ∧ l[i]!.t ≤ 1073741824 ∧ 1 ≤ l[i]!.s ∧ l[i]!.s ≤ 4096 ∧ (0 < i → l[i - 1]!.f ≤ l[i]!.f))
def mayL (l : List Lf) : Bool := decide (l.length ≤ 300) && (List.range l.length).all (okL l)
theorem mayL_bad (l : List Lf) (i : Nat) (hi : i < l.length) (h : okL l i = false) : mayL l = false := by
  unfold mayL
  rw [Bool.and_eq_false_iff]
  right
  rw [List.all_eq_false]
  exact ⟨i, by simpa using hi, by simp [h]⟩
theorem mayL_good (l : List Lf) (hl : l.length ≤ 300) (h : ∀ i, i < l.length → okL l i = true) : mayL l = true := by
  unfold mayL
  simp only [hl, decide_true, Bool.true_and]
  rw [List.all_eq_true]
  intro i hi
  exact h i (by simpa using hi)
theorem may_ok (H : AH) (hr0 : H.ro ≤ H.size) (l : List Lf) (v : Value) (h : Lfs H v l) : Runs tb 26 [v] H (fun r H' => r = .bool (mayL l) ∧ Ext H H') := by
  obtain ⟨a, c, rfl⟩ := h.inv
  refine Runs_fn (fn := Try.f26) [.tmp 2] [0, 2, 3, 4, 8, 9, 10] [] 3000 (by kernel_rfl) rfl (by kernel_rfl) (by kernel_rfl) rfl ?_; simp only [pad, argAt]
  simp (disch := omega) only [go_sem, Nat.reduceEqDiff, Nat.reduceAdd, ↓reduceIte, get_pushB, get_putB, pickB_t, pickB_f, eqB_t, eqB_f, ltB_t, leB_t, AH.size_push, AH.size_put, AH.ro_push, AH.ro_put]
  refine Split.mk (fun h1 => ?_) (fun h1 => ?_)
  · simp (disch := omega) only [go_sem, Nat.reduceEqDiff, Nat.reduceAdd, ↓reduceIte, get_pushB, get_putB, pickB_t, pickB_f, eqB_t, eqB_f, ltB_t, leB_t, AH.size_push, AH.size_put, AH.ro_push, AH.ro_put]
    have : mayL l = false := by
      unfold mayL
      rw [decide_eq_false (by omega)]; rfl
    rw [this]
    exact ⟨rfl, Ext.refl _⟩
  · simp (disch := omega) only [go_sem, Nat.reduceEqDiff, Nat.reduceAdd, ↓reduceIte, get_pushB, get_putB, pickB_t, pickB_f, eqB_t, eqB_f, ltB_t, leB_t, AH.size_push, AH.size_put, AH.ro_push, AH.ro_put]
    refine Sat_loop 3000 (fun k K V => ∃ (j : Nat) (x3 x4 : Value), j ≤ l.length ∧ k = l.length - j ∧ Ext H K ∧ (∀ i, i < j → okL l i = true) ∧ V = [.slice a l.length c, .bool false, x3, x4, .slice a l.length c, .int .i64 l.length, .int .i64 j]) l.length ⟨0, _, _, by omega, rfl, Ext.refl _, fun i hi => absurd hi (by omega), rfl⟩ ?_
    rintro k K V ⟨j, x3, x4, hj, rfl, hE, hok, rfl⟩ ih
    have hrK : K.ro ≤ K.size := by have := hE.ro; have := hE.size; omega
    simp (disch := omega) only [go_sem, Nat.reduceEqDiff, Nat.reduceAdd, ↓reduceIte, get_pushB, get_putB, pickB_t, pickB_f, eqB_t, eqB_f, ltB_t, leB_t, AH.size_push, AH.size_put, AH.ro_push, AH.ro_put]
    refine Split.mk (fun h2 => ?_) (fun h2 => ?_)
    · have hlt : j < l.length := by omega
      have hK := h.ext hE
      have y1 := ixL hK .i64 (j : Int) (by omega)
      have z1 := ldL hK (j : Int) (by omega)
      simp only [Int.toNat_natCast] at z1
      obtain ⟨x, hx⟩ : ∃ x, x = l[j]! := ⟨_, rfl⟩
      rw [← hx] at z1
      simp (disch := omega) only [go_sem, Nat.reduceEqDiff, Nat.reduceAdd, ↓reduceIte, get_pushB, get_putB, pickB_t, pickB_f, eqB_t, eqB_f, ltB_t, leB_t, AH.size_push, AH.size_put, AH.ro_push, AH.ro_put, y1, z1, lfv]
      refine SplitG.mk (fun g1 => ?_) (fun g1 => ?_)
      · simp (disch := omega) only [go_sem, Nat.reduceEqDiff, Nat.reduceAdd, ↓reduceIte, get_pushB, get_putB, pickB_t, pickB_f, eqB_t, eqB_f, ltB_t, leB_t, AH.size_push, AH.size_put, AH.ro_push, AH.ro_put]
        rw [mayL_bad l j hlt (by unfold okL; rw [← hx]; exact decide_eq_false (by omega))]
        exact ⟨rfl, hE.trans ((Fr.put K.size _ (by simp) _).ext (Ext.push K _) (Nat.le_refl _))⟩
      · simp (disch := omega) only [go_sem, Nat.reduceEqDiff, Nat.reduceAdd, ↓reduceIte, get_pushB, get_putB, pickB_t, pickB_f, eqB_t, eqB_f, ltB_t, leB_t, AH.size_push, AH.size_put, AH.ro_push, AH.ro_put]
        refine SplitG.mk (fun g2 => ?_) (fun g2 => ?_)
        · simp (disch := omega) only [go_sem, Nat.reduceEqDiff, Nat.reduceAdd, ↓reduceIte, get_pushB, get_putB, pickB_t, pickB_f, eqB_t, eqB_f, ltB_t, leB_t, AH.size_push, AH.size_put, AH.ro_push, AH.ro_put]
          rw [mayL_bad l j hlt (by unfold okL; rw [← hx]; exact decide_eq_false (by omega))]
          exact ⟨rfl, hE.trans ((Fr.put K.size _ (by simp) _).ext (Ext.push K _) (Nat.le_refl _))⟩
        · simp (disch := omega) only [go_sem, Nat.reduceEqDiff, Nat.reduceAdd, ↓reduceIte, get_pushB, get_putB, pickB_t, pickB_f, eqB_t, eqB_f, ltB_t, leB_t, AH.size_push, AH.size_put, AH.ro_push, AH.ro_put]
          refine SplitG.mk (fun g3 => ?_) (fun g3 => ?_)
          · simp (disch := omega) only [go_sem, Nat.reduceEqDiff, Nat.reduceAdd, ↓reduceIte, get_pushB, get_putB, pickB_t, pickB_f, eqB_t, eqB_f, ltB_t, leB_t, AH.size_push, AH.size_put, AH.ro_push, AH.ro_put]
            rw [mayL_bad l j hlt (by unfold okL; rw [← hx]; exact decide_eq_false (by omega))]
            exact ⟨rfl, hE.trans ((Fr.put K.size _ (by simp) _).ext (Ext.push K _) (Nat.le_refl _))⟩
          · simp (disch := omega) only [go_sem, Nat.reduceEqDiff, Nat.reduceAdd, ↓reduceIte, get_pushB, get_putB, pickB_t, pickB_f, eqB_t, eqB_f, ltB_t, leB_t, AH.size_push, AH.size_put, AH.ro_push, AH.ro_put]
            refine SplitG.mk (fun g4 => ?_) (fun g4 => ?_)
            · simp (disch := omega) only [go_sem, Nat.reduceEqDiff, Nat.reduceAdd, ↓reduceIte, get_pushB, get_putB, pickB_t, pickB_f, eqB_t, eqB_f, ltB_t, leB_t, AH.size_push, AH.size_put, AH.ro_push, AH.ro_put]
              rw [mayL_bad l j hlt (by unfold okL; rw [← hx]; exact decide_eq_false (by omega))]
              exact ⟨rfl, hE.trans ((Fr.put K.size _ (by simp) _).ext (Ext.push K _) (Nat.le_refl _))⟩
            · simp (disch := omega) only [go_sem, Nat.reduceEqDiff, Nat.reduceAdd, ↓reduceIte, get_pushB, get_putB, pickB_t, pickB_f, eqB_t, eqB_f, ltB_t, leB_t, AH.size_push, AH.size_put, AH.ro_push, AH.ro_put]
              refine SplitG.mk (fun g5 => ?_) (fun g5 => ?_)
              · simp (disch := omega) only [go_sem, Nat.reduceEqDiff, Nat.reduceAdd, ↓reduceIte, get_pushB, get_putB, pickB_t, pickB_f, eqB_t, eqB_f, ltB_t, leB_t, AH.size_push, AH.size_put, AH.ro_push, AH.ro_put]
                rw [mayL_bad l j hlt (by unfold okL; rw [← hx]; exact decide_eq_false (by omega))]
                exact ⟨rfl, hE.trans ((Fr.put K.size _ (by simp) _).ext (Ext.push K _) (Nat.le_refl _))⟩
              · simp (disch := omega) only [go_sem, Nat.reduceEqDiff, Nat.reduceAdd, ↓reduceIte, get_pushB, get_putB, pickB_t, pickB_f, eqB_t, eqB_f, ltB_t, leB_t, AH.size_push, AH.size_put, AH.ro_push, AH.ro_put]
                refine SplitG.mk (fun g6 => ?_) (fun g6 => ?_)
                · have hlt1 : j - 1 < l.length := by omega
                  have ej : (j : Int) - 1 = ((j - 1 : Nat) : Int) := by omega
                  have hK2 := hK.ext ((Fr.put K.size _ (by simp) _).ext (Ext.push K [.int .i64 0, .int .i64 0, .int .i64 0]) (Nat.le_refl _) : Ext K ((K.push [.int .i64 0, .int .i64 0, .int .i64 0]).put K.size (some [.int .i64 x.f, .int .i64 x.t, .int .i64 x.s])))
                  have y2 := ixL hK .i64 ((j - 1 : Nat) : Int) (by omega)
                  have f2 := (faL hK ((j - 1 : Nat) : Int) (by omega)).1
                  have z2 := (lfL hK2 ((j - 1 : Nat) : Int) (by omega)).1
                  simp only [Int.toNat_natCast] at z2
                  simp (disch := omega) only [go_sem, Nat.reduceEqDiff, Nat.reduceAdd, ↓reduceIte, get_pushB, get_putB, pickB_t, pickB_f, eqB_t, eqB_f, ltB_t, leB_t, AH.size_push, AH.size_put, AH.ro_push, AH.ro_put, ej, y2, f2, z2]
                  refine Split.mk (fun g7 => ?_) (fun g7 => ?_)
                  · simp (disch := omega) only [go_sem, Nat.reduceEqDiff, Nat.reduceAdd, ↓reduceIte, get_pushB, get_putB, pickB_t, pickB_f, eqB_t, eqB_f, ltB_t, leB_t, AH.size_push, AH.size_put, AH.ro_push, AH.ro_put]
                    rw [mayL_bad l j hlt (by unfold okL; rw [← hx]; exact decide_eq_false (by omega))]
                    exact ⟨rfl, hE.trans ((Fr.put K.size _ (by simp) _).ext (Ext.push K _) (Nat.le_refl _))⟩
                  · simp (disch := omega) only [go_sem, Nat.reduceEqDiff, Nat.reduceAdd, ↓reduceIte, get_pushB, get_putB, pickB_t, pickB_f, eqB_t, eqB_f, ltB_t, leB_t, AH.size_push, AH.size_put, AH.ro_push, AH.ro_put]
                    refine ih _ _ _ ?_ ⟨j + 1, _, _, by omega, rfl, hE.trans ((Fr.put K.size _ (by simp) _).ext (Ext.push K _) (Nat.le_refl _)), ?_, by simp only [Int.natCast_add]; rfl⟩
                    · omega
                    · intro i hi
                      rcases Nat.lt_or_ge i j with h | h
                      · exact hok i h
                      · obtain rfl : i = j := by omega
                        unfold okL
                        rw [← hx]
                        exact decide_eq_true (by omega)
                · simp (disch := omega) only [go_sem, Nat.reduceEqDiff, Nat.reduceAdd, ↓reduceIte, get_pushB, get_putB, pickB_t, pickB_f, eqB_t, eqB_f, ltB_t, leB_t, AH.size_push, AH.size_put, AH.ro_push, AH.ro_put]
                  refine ih _ _ _ ?_ ⟨j + 1, _, _, by omega, rfl, hE.trans ((Fr.put K.size _ (by simp) _).ext (Ext.push K _) (Nat.le_refl _)), ?_, by simp only [Int.natCast_add]; rfl⟩
                  · omega
                  · intro i hi
                    rcases Nat.lt_or_ge i j with h | h
                    · exact hok i h
                    · obtain rfl : i = j := by omega
                      unfold okL
                      rw [← hx]
                      exact decide_eq_true (by omega)
    · obtain rfl : j = l.length := by omega
      simp (disch := omega) only [go_sem, Nat.reduceEqDiff, Nat.reduceAdd, ↓reduceIte, get_pushB, get_putB, pickB_t, pickB_f, eqB_t, eqB_f, ltB_t, leB_t, AH.size_push, AH.size_put, AH.ro_push, AH.ro_put]
      rw [mayL_good l (by omega) hok]
      exact ⟨rfl, hE⟩
end Go.Proofs.A

/- Arena: the page's own, lives. -/
set_option linter.unusedVariables false
set_option maxRecDepth 8000
set_option maxHeartbeats 4000000
set_option linter.unusedSimpArgs false
namespace Go.Proofs.A
open Go Go.Ab
theorem Lives_ok (H : AH) (l : List Lf) (v : Value) (h : Lfs H v l) : Runs tb 13 [v] H (fun r H' => r = .bool (mayL l) ∧ H' = H) := by
  obtain ⟨a, c, rfl⟩ := h.inv
  refine Runs_fn (fn := Try.f13) [.tmp 2] [0, 2, 3] [] 3000 (by kernel_rfl) rfl (by kernel_rfl) (by kernel_rfl) rfl ?_; simp only [pad, argAt]
  simp (disch := omega) only [go_sem, Nat.reduceEqDiff, Nat.reduceAdd, ↓reduceIte, get_pushB, get_putB, pickB_t, pickB_f, eqB_t, eqB_f, ltB_t, leB_t, AH.size_push, AH.size_put, AH.ro_push, AH.ro_put]
  refine Sat_loop 3000 (fun k K V => ∃ (j : Nat), j ≤ l.length ∧ j ≤ 301 ∧ k = l.length - j ∧ K = H ∧ (∀ i, i < j → okL l i = true) ∧ V = [.slice a l.length c, .bool false, .int .i64 j]) l.length ⟨0, by omega, by omega, rfl, rfl, fun i hi => absurd hi (by omega), rfl⟩ ?_
  rintro k K V ⟨j, hj, hj2, rfl, rfl, hok, rfl⟩ ih
  simp (disch := omega) only [go_sem, Nat.reduceEqDiff, Nat.reduceAdd, ↓reduceIte, get_pushB, get_putB, pickB_t, pickB_f, eqB_t, eqB_f, ltB_t, leB_t, AH.size_push, AH.size_put, AH.ro_push, AH.ro_put]
  refine SplitG.mk (fun h1 => ?_) (fun h1 => ?_)
  · simp (disch := omega) only [go_sem, Nat.reduceEqDiff, Nat.reduceAdd, ↓reduceIte, get_pushB, get_putB, pickB_t, pickB_f, eqB_t, eqB_f, ltB_t, leB_t, AH.size_push, AH.size_put, AH.ro_push, AH.ro_put]
    refine Split.mk (fun h2 => ?_) (fun h2 => ?_)
    · have hlt : j < l.length := by omega
      have y1 := ixL h .i64 (j : Int) (by omega)
      obtain ⟨f1, f2, f3⟩ := faL h (j : Int) (by omega)
      obtain ⟨z1, z2, z3⟩ := lfL h (j : Int) (by omega)
      simp only [Int.toNat_natCast] at z1 z2 z3
      obtain ⟨x, hx⟩ : ∃ x, x = l[j]! := ⟨_, rfl⟩
      rw [← hx] at z1 z2 z3
      simp (disch := omega) only [go_sem, Nat.reduceEqDiff, Nat.reduceAdd, ↓reduceIte, get_pushB, get_putB, pickB_t, pickB_f, eqB_t, eqB_f, ltB_t, leB_t, AH.size_push, AH.size_put, AH.ro_push, AH.ro_put, y1, f1, f2, f3, z1, z2, z3]
      refine SplitG.mk (fun g1 => ?_) (fun g1 => ?_)
      · simp (disch := omega) only [go_sem, Nat.reduceEqDiff, Nat.reduceAdd, ↓reduceIte, get_pushB, get_putB, pickB_t, pickB_f, eqB_t, eqB_f, ltB_t, leB_t, AH.size_push, AH.size_put, AH.ro_push, AH.ro_put]
        rw [mayL_bad l j hlt (by unfold okL; rw [← hx]; exact decide_eq_false (by omega))]
        exact ⟨rfl, by trivial⟩
      · simp (disch := omega) only [go_sem, Nat.reduceEqDiff, Nat.reduceAdd, ↓reduceIte, get_pushB, get_putB, pickB_t, pickB_f, eqB_t, eqB_f, ltB_t, leB_t, AH.size_push, AH.size_put, AH.ro_push, AH.ro_put, y1, f1, f2, f3, z1, z2, z3]
        refine SplitG.mk (fun g2 => ?_) (fun g2 => ?_)
        · simp (disch := omega) only [go_sem, Nat.reduceEqDiff, Nat.reduceAdd, ↓reduceIte, get_pushB, get_putB, pickB_t, pickB_f, eqB_t, eqB_f, ltB_t, leB_t, AH.size_push, AH.size_put, AH.ro_push, AH.ro_put]
          rw [mayL_bad l j hlt (by unfold okL; rw [← hx]; exact decide_eq_false (by omega))]
          exact ⟨rfl, by trivial⟩
        · simp (disch := omega) only [go_sem, Nat.reduceEqDiff, Nat.reduceAdd, ↓reduceIte, get_pushB, get_putB, pickB_t, pickB_f, eqB_t, eqB_f, ltB_t, leB_t, AH.size_push, AH.size_put, AH.ro_push, AH.ro_put, y1, f1, f2, f3, z1, z2, z3]
          refine SplitG.mk (fun g3 => ?_) (fun g3 => ?_)
          · simp (disch := omega) only [go_sem, Nat.reduceEqDiff, Nat.reduceAdd, ↓reduceIte, get_pushB, get_putB, pickB_t, pickB_f, eqB_t, eqB_f, ltB_t, leB_t, AH.size_push, AH.size_put, AH.ro_push, AH.ro_put]
            rw [mayL_bad l j hlt (by unfold okL; rw [← hx]; exact decide_eq_false (by omega))]
            exact ⟨rfl, by trivial⟩
          · simp (disch := omega) only [go_sem, Nat.reduceEqDiff, Nat.reduceAdd, ↓reduceIte, get_pushB, get_putB, pickB_t, pickB_f, eqB_t, eqB_f, ltB_t, leB_t, AH.size_push, AH.size_put, AH.ro_push, AH.ro_put, y1, f1, f2, f3, z1, z2, z3]
            refine callW_of (Between_ok _ x.s 1 4096) ?_
            rintro r G ⟨rfl, rfl⟩
            by_cases hb : 1 ≤ x.s ∧ x.s ≤ 4096
            · rw [show (decide (1 ≤ x.s) && decide (x.s ≤ 4096)) = true by simp [hb]]
              simp (disch := omega) only [go_sem, Nat.reduceEqDiff, Nat.reduceAdd, ↓reduceIte, get_pushB, get_putB, pickB_t, pickB_f, eqB_t, eqB_f, ltB_t, leB_t, AH.size_push, AH.size_put, AH.ro_push, AH.ro_put]
              refine SplitG.mk (fun g6 => ?_) (fun g6 => ?_)
              · have hlt1 : j - 1 < l.length := by omega
                have ej : (j : Int) - 1 = ((j - 1 : Nat) : Int) := by omega
                have y2 := ixL h .i64 ((j - 1 : Nat) : Int) (by omega)
                have f4 := (faL h ((j - 1 : Nat) : Int) (by omega)).1
                have z4 := (lfL h ((j - 1 : Nat) : Int) (by omega)).1
                simp only [Int.toNat_natCast] at z4
                simp (disch := omega) only [go_sem, Nat.reduceEqDiff, Nat.reduceAdd, ↓reduceIte, get_pushB, get_putB, pickB_t, pickB_f, eqB_t, eqB_f, ltB_t, leB_t, AH.size_push, AH.size_put, AH.ro_push, AH.ro_put, ej, y1, f1, z1, y2, f4, z4]
                refine Split.mk (fun g7 => ?_) (fun g7 => ?_)
                · simp (disch := omega) only [go_sem, Nat.reduceEqDiff, Nat.reduceAdd, ↓reduceIte, get_pushB, get_putB, pickB_t, pickB_f, eqB_t, eqB_f, ltB_t, leB_t, AH.size_push, AH.size_put, AH.ro_push, AH.ro_put]
                  rw [mayL_bad l j hlt (by unfold okL; rw [← hx]; exact decide_eq_false (by omega))]
                  exact ⟨rfl, by trivial⟩
                · simp (disch := omega) only [go_sem, Nat.reduceEqDiff, Nat.reduceAdd, ↓reduceIte, get_pushB, get_putB, pickB_t, pickB_f, eqB_t, eqB_f, ltB_t, leB_t, AH.size_push, AH.size_put, AH.ro_push, AH.ro_put]
                  refine ih _ _ _ ?_ ⟨j + 1, by omega, by omega, rfl, rfl, ?_, by simp only [Int.natCast_add]; rfl⟩
                  · omega
                  · intro i hi
                    rcases Nat.lt_or_ge i j with h | h
                    · exact hok i h
                    · obtain rfl : i = j := by omega
                      unfold okL
                      rw [← hx]
                      exact decide_eq_true (by omega)
              · simp (disch := omega) only [go_sem, Nat.reduceEqDiff, Nat.reduceAdd, ↓reduceIte, get_pushB, get_putB, pickB_t, pickB_f, eqB_t, eqB_f, ltB_t, leB_t, AH.size_push, AH.size_put, AH.ro_push, AH.ro_put]
                refine ih _ _ _ ?_ ⟨j + 1, by omega, by omega, rfl, rfl, ?_, by simp only [Int.natCast_add]; rfl⟩
                · omega
                · intro i hi
                  rcases Nat.lt_or_ge i j with h | h
                  · exact hok i h
                  · obtain rfl : i = j := by omega
                    unfold okL
                    rw [← hx]
                    exact decide_eq_true (by omega)
            · rw [show (decide (1 ≤ x.s) && decide (x.s ≤ 4096)) = false by rw [Bool.and_eq_false_iff, decide_eq_false_iff_not, decide_eq_false_iff_not]; omega]
              simp (disch := omega) only [go_sem, Nat.reduceEqDiff, Nat.reduceAdd, ↓reduceIte, get_pushB, get_putB, pickB_t, pickB_f, eqB_t, eqB_f, ltB_t, leB_t, AH.size_push, AH.size_put, AH.ro_push, AH.ro_put]
              rw [mayL_bad l j hlt (by unfold okL; rw [← hx]; exact decide_eq_false (by omega))]
              exact ⟨rfl, by trivial⟩
    · simp (disch := omega) only [go_sem, Nat.reduceEqDiff, Nat.reduceAdd, ↓reduceIte, get_pushB, get_putB, pickB_t, pickB_f, eqB_t, eqB_f, ltB_t, leB_t, AH.size_push, AH.size_put, AH.ro_push, AH.ro_put]
      have hm : mayL l = decide (l.length ≤ 300) := by
        by_cases hl : l.length ≤ 300
        · rw [decide_eq_true hl]; exact mayL_good l hl (fun i hi => hok i (by omega))
        · rw [decide_eq_false hl]; unfold mayL; rw [decide_eq_false hl]; rfl
      rw [hm]
      exact ⟨congrArg _ (decide_eq_decide.2 (by omega)), by trivial⟩
  · simp (disch := omega) only [go_sem, Nat.reduceEqDiff, Nat.reduceAdd, ↓reduceIte, get_pushB, get_putB, pickB_t, pickB_f, eqB_t, eqB_f, ltB_t, leB_t, AH.size_push, AH.size_put, AH.ro_push, AH.ro_put]
    have hm : mayL l = decide (l.length ≤ 300) := by
      by_cases hl : l.length ≤ 300
      · rw [decide_eq_true hl]; exact mayL_good l hl (fun i hi => hok i (by omega))
      · rw [decide_eq_false hl]; unfold mayL; rw [decide_eq_false hl]; rfl
    rw [hm]
    exact ⟨congrArg _ (decide_eq_decide.2 (by omega)), by trivial⟩
end Go.Proofs.A

/- Arena: where lives lie, plainly. -/
set_option linter.unusedVariables false
set_option maxRecDepth 8000
set_option maxHeartbeats 4000000
set_option linter.unusedSimpArgs false
namespace Go.Proofs.A
open Go Go.Ab
theorem gapL_mem (size : Int) (l : List Sp) : ((gapL size l).1 = 0 ∨ ∃ x ∈ l, (gapL size l).1 = x.2) ∧ ((gapL size l).2.1 = -1 ∨ (gapL size l).2.1 = 0 ∨ ∃ x ∈ l, (gapL size l).2.1 = x.2) := by
  have H : ∀ (l p : List Sp) (st : Int × Int × Int), (st.1 = 0 ∨ ∃ x ∈ p, st.1 = x.2) ∧ (st.2.1 = -1 ∨ st.2.1 = 0 ∨ ∃ x ∈ p, st.2.1 = x.2) →
      ((l.foldl (gapS size) st).1 = 0 ∨ ∃ x ∈ p ++ l, (l.foldl (gapS size) st).1 = x.2) ∧ ((l.foldl (gapS size) st).2.1 = -1 ∨ (l.foldl (gapS size) st).2.1 = 0 ∨ ∃ x ∈ p ++ l, (l.foldl (gapS size) st).2.1 = x.2) := by
    intro l
    induction l with
    | nil => intro p st h; simpa using h
    | cons y ys ih =>
      intro p st h
      rw [List.foldl_cons, show p ++ y :: ys = (p ++ [y]) ++ ys by simp]
      refine ih (p ++ [y]) _ ?_
      obtain ⟨h1, h2⟩ := h
      have h1' : st.1 = 0 ∨ ∃ x ∈ p ++ [y], st.1 = x.2 := h1.imp id (fun ⟨x, hx, e⟩ => ⟨x, by simp [hx], e⟩)
      have h2' : st.2.1 = -1 ∨ st.2.1 = 0 ∨ ∃ x ∈ p ++ [y], st.2.1 = x.2 := h2.imp id (Or.imp id (fun ⟨x, hx, e⟩ => ⟨x, by simp [hx], e⟩))
      unfold gapS
      split
      · exact ⟨.inr ⟨y, by simp, rfl⟩, .inr h1'⟩
      · exact ⟨.inr ⟨y, by simp, rfl⟩, h2'⟩
  exact H l [] _ ⟨.inl rfl, .inl rfl⟩
/-- The best gap begins at 0 or where one ends. -/
theorem gapF_mem (size : Int) (l : List Sp) : gapF size l = 0 ∨ ∃ x ∈ l, gapF size l = x.2 := by
  obtain ⟨h1, h2⟩ := gapL_mem size l
  unfold gapF
  split
  · exact h1
  · rename_i h
    rcases h2 with h2 | h2
    · omega
    · exact h2
/-- Those that are there when the i-th comes. -/
def thereL (l : List Lf) (ps : List Int) (i : Nat) : List Sp := ((List.range i).filter (fun k => decide (l[i]!.f < l[k]!.t))).map (fun k => (ps[k]!, ps[k]! + l[k]!.s))
def sortL (l : List Sp) : List Sp := (Sort.sort ltS l.toArray).toList
def placeL (l : List Lf) : Nat → List Int
  | 0 => []
  | i + 1 => placeL l i ++ [gapF l[i]!.s (sortL (thereL l (placeL l i) i))]
theorem placeL_len (l : List Lf) (i : Nat) : (placeL l i).length = i := by
  induction i with
  | zero => rfl
  | succ i ih => simp [placeL, ih]
theorem sortL_perm (l : List Sp) : (sortL l).Perm l := by
  obtain ⟨h1, h2, h3⟩ := (sort_spec l.toArray).1
  unfold sortL
  have hl : (Sort.sort ltS l.toArray).toList.length = l.length := by simpa using h1
  simp at h3
  rwa [List.take_of_length_le (by omega)] at h3
theorem placeL_bd (l : List Lf) (i : Nat) (hs : ∀ k, k < i → 0 ≤ l[k]!.s ∧ l[k]!.s ≤ 4096) : ∀ x ∈ placeL l i, 0 ≤ x ∧ x ≤ 4096 * i := by
  induction i with
  | zero => intro x hx; simp [placeL] at hx
  | succ i ih =>
    have ih := ih (fun k hk => hs k (by omega))
    intro x hx
    rw [placeL, List.mem_append, List.mem_singleton] at hx
    rcases hx with hx | hx
    · have := ih x hx; omega
    · subst hx
      rcases gapF_mem l[i]!.s (sortL (thereL l (placeL l i) i)) with h | ⟨y, hy, e⟩
      · omega
      · rw [e]
        have hy := (sortL_perm _).mem_iff.1 hy
        unfold thereL at hy
        rw [List.mem_map] at hy
        obtain ⟨k, hk, rfl⟩ := hy
        rw [List.mem_filter, List.mem_range] at hk
        have hk1 : k < (placeL l i).length := by rw [placeL_len]; exact hk.1
        have h1 := ih (placeL l i)[k]! (by rw [List.getElem!_eq_getElem?_getD, List.getElem?_eq_getElem hk1]; exact List.getElem_mem hk1)
        have h2 := hs k (by omega)
        simp only []
        omega
end Go.Proofs.A

/- Arena: places. -/
set_option linter.unusedVariables false
set_option maxRecDepth 8000
set_option maxHeartbeats 4000000
set_option linter.unusedSimpArgs false
namespace Go.Proofs.A
open Go Go.Ab
theorem stS : STy tb 54 56 2 := ⟨_, _, ty54, rfl, ty56, rfl, by decide, rfl, by decide, by decide, fun h => absurd h (by decide), fun _ => rfl⟩
theorem okL_of {l : List Lf} (hm : mayL l = true) {i : Nat} (hi : i < l.length) : 0 ≤ l[i]!.f ∧ l[i]!.f < l[i]!.t ∧ l[i]!.t ≤ 1073741824 ∧ 1 ≤ l[i]!.s ∧ l[i]!.s ≤ 4096 ∧ (0 < i → l[i - 1]!.f ≤ l[i]!.f) := by
  unfold mayL at hm
  rw [Bool.and_eq_true, List.all_eq_true] at hm
  have := hm.2 i (by simpa using hi)
  unfold okL at this
  exact of_decide_eq_true this
theorem mayL_len {l : List Lf} (hm : mayL l = true) : l.length ≤ 300 := by
  unfold mayL at hm
  rw [Bool.and_eq_true] at hm
  exact of_decide_eq_true hm.1
/-- Those that are there, of the first k. -/
def thereP (l : List Lf) (ps : List Int) (i k : Nat) : List Sp := ((List.range k).filter (fun k => decide (l[i]!.f < l[k]!.t))).map (fun k => (ps[k]!, ps[k]! + l[k]!.s))
theorem thereP_yes (l : List Lf) (ps : List Int) (i k : Nat) (h : l[i]!.f < l[k]!.t) : thereP l ps i (k + 1) = thereP l ps i k ++ [(ps[k]!, ps[k]! + l[k]!.s)] := by
  unfold thereP
  rw [List.range_succ, List.filter_append, List.map_append, List.filter_cons_of_pos (by simpa using h)]
  rfl
theorem thereP_no (l : List Lf) (ps : List Int) (i k : Nat) (h : ¬ l[i]!.f < l[k]!.t) : thereP l ps i (k + 1) = thereP l ps i k := by
  unfold thereP
  rw [List.range_succ, List.filter_append, List.map_append, List.filter_cons_of_neg (by simpa using h)]
  simp
theorem thereP_len (l : List Lf) (ps : List Int) (i k : Nat) : (thereP l ps i k).length ≤ k := by
  unfold thereP
  rw [List.length_map]
  exact Nat.le_trans (List.length_filter_le _ _) (by simp)
def OwnS (H0 H : AH) (v : Value) (l : List Sp) : Prop := Own H0 H 2 v l.length (l.flatMap fun x => [.int .i64 x.1, .int .i64 x.2])
theorem OwnS.spv {H0 H : AH} {v : Value} {l : List Sp} (h : OwnS H0 H v l) (hl : l.length ≤ 1000) : SpV H v l.toArray ∧ ((∃ b, v = SV b l.toArray ∧ SpAt H b l.toArray ∧ H0.size ≤ b) ∨ (v = .slice none 0 0 ∧ l = [])) := by
  unfold OwnS at h
  generalize hn : l.length = n at h
  generalize hx : (l.flatMap fun x : Sp => ([.int .i64 x.1, .int .i64 x.2] : List Value)) = xs at h
  cases h with
  | nil =>
    have : l = [] := List.eq_nil_of_length_eq_zero hn
    subst this
    exact ⟨.nil, .inr ⟨rfl, rfl⟩⟩
  | mk b n xs hb hro hr hg hlen hbd =>
    have hA : SpAt H b l.toArray := ⟨by rw [hg, ← hx]; rfl, by omega, by simp; omega⟩
    have hv : Value.slice (some ⟨b, 0, none⟩) n 2 = SV b l.toArray := by rw [SV]; simp [hn]
    rw [hv]
    exact ⟨.mk b _ hA, .inl ⟨b, rfl, hA, hb⟩⟩
end Go.Proofs.A

/- Arena: places, walked. -/
set_option linter.unusedVariables false
set_option maxRecDepth 8000
set_option maxHeartbeats 4000000
set_option linter.unusedSimpArgs false
namespace Go.Proofs.A
open Go Go.Ab
theorem bdS (p q : Int) : abuild tb 56 [(0, .int .i64 p), (1, .int .i64 q)] = some (.agg #[.int .i64 p, .int .i64 q]) := by kernel_rfl
theorem SortS_ok (G M : AH) (vt : Value) (lst : List Sp) (h : OwnS G M vt lst) (hE : Ext G M) (hr : M.ro ≤ M.size) (hl : lst.length ≤ 1000) :
    Runs tb 32 [vt, cmpV] M (fun r M' => r = .tuple #[] ∧ SpV M' vt (sortL lst).toArray ∧ Ext G M') := by
  rcases (h.spv hl).2 with ⟨b, rfl, hA, hb⟩ | ⟨rfl, rfl⟩
  · refine (SortFunc_ok M b _ hA hr).mono ?_
    rintro r M' ⟨hr, hA', hF⟩
    have hsz : SV b lst.toArray = SV b (sortL lst).toArray := by
      have := (sortL_perm lst).length_eq
      rw [SV, SV]; simp [this]
    rw [hsz]
    exact ⟨hr, .mk b _ (by unfold sortL; simpa using hA'), hF.ext hE hb⟩
  · refine (SortFunc_nil M).mono ?_
    rintro r M' ⟨rfl, rfl⟩
    have : sortL [] = [] := (sortL_perm []).eq_nil
    rw [this]
    exact ⟨rfl, .nil, hE⟩
theorem places_ok (H : AH) (hr0 : H.ro ≤ H.size) (l : List Lf) (v : Value) (h : Lfs H v l) (hm : mayL l = true) : Runs tb 27 [v] H (fun r H' => OwnI H H' r (placeL l l.length) ∧ Ext H H') := by
  obtain ⟨a, c, rfl⟩ := h.inv
  have hlen := mayL_len hm
  refine Runs_fn (fn := Try.f27) [.tmp 2] [0, 2, 3, 4, 5, 6, 7, 8, 9, 10, 11, 18, 19, 20] [] 3000 (by kernel_rfl) rfl (by kernel_rfl) (by kernel_rfl) rfl ?_; simp only [pad, argAt]
  simp (disch := omega) only [go_sem, Nat.reduceEqDiff, Nat.reduceAdd, ↓reduceIte, get_pushB, get_putB, pickB_t, pickB_f, eqB_t, eqB_f, ltB_t, leB_t, AH.size_push, AH.size_put, AH.ro_push, AH.ro_put]
  refine Sat_loop 3000 (fun k K V => ∃ (i : Nat) (va x4 x5 x6 x7 x8 x18 x19 x20 : Value), i ≤ l.length ∧ k = l.length - i ∧ Ext H K ∧ OwnI H K va (placeL l i) ∧ V = [.slice a l.length c, .slice none 0 0, va, x4, x5, x6, x7, x8, .slice a l.length c, .int .i64 l.length, .int .i64 i, x18, x19, x20]) l.length ⟨0, _, _, _, _, _, _, _, _, _, by omega, rfl, Ext.refl _, OwnI.nil H H, rfl⟩ ?_
  rintro k K V ⟨i, va, x4, x5, x6, x7, x8, x18, x19, x20, hi, rfl, hE, hva, rfl⟩ ih
  have hrK : K.ro ≤ K.size := by have := hE.ro; have := hE.size; omega
  simp (disch := omega) only [go_sem, Nat.reduceEqDiff, Nat.reduceAdd, ↓reduceIte, get_pushB, get_putB, pickB_t, pickB_f, eqB_t, eqB_f, ltB_t, leB_t, AH.size_push, AH.size_put, AH.ro_push, AH.ro_put]
  refine Split.mk (fun h1 => ?_) (fun h1 => ?_)
  · have hlt : i < l.length := by omega
    have hK := h.ext hE
    have y1 := ixL hK .i64 (i : Int) (by omega)
    have z1 := ldL hK (i : Int) (by omega)
    simp only [Int.toNat_natCast] at z1
    obtain ⟨o1, o2, o3, o4, o5, -⟩ := okL_of hm hlt
    obtain ⟨x, hx⟩ : ∃ x, x = l[i]! := ⟨_, rfl⟩
    rw [← hx] at z1 o1 o2 o3 o4 o5
    obtain ⟨sa, sc, es, hs⟩ := Sl.sub hK ty22 rfl ty27 rfl none (some (.int .i64 (i : Int))) 0 i (by simp [abound]; omega) (by simp [abound])
    simp only [Nat.sub_zero, List.drop_zero] at es hs
    have hsl : (l.take i).length = i := by simp; omega
    simp (disch := omega) only [go_sem, Nat.reduceEqDiff, Nat.reduceAdd, ↓reduceIte, get_pushB, get_putB, pickB_t, pickB_f, eqB_t, eqB_f, ltB_t, leB_t, AH.size_push, AH.size_put, AH.ro_push, AH.ro_put, y1, z1, lfv, es]
    have hE1 : Ext K ((K.push [Value.int IntKind.i64 0, Value.int IntKind.i64 0, Value.int IntKind.i64 0]).put K.size (some [Value.int IntKind.i64 x.f, Value.int IntKind.i64 x.t, Value.int IntKind.i64 x.s])) := (Fr.put K.size _ (by simp) _).ext (Ext.push K _) (Nat.le_refl _)
    have hgx : ((K.push [Value.int IntKind.i64 0, Value.int IntKind.i64 0, Value.int IntKind.i64 0]).put K.size (some [Value.int IntKind.i64 x.f, Value.int IntKind.i64 x.t, Value.int IntKind.i64 x.s])).get K.size = some [Value.int IntKind.i64 x.f, Value.int IntKind.i64 x.t, Value.int IntKind.i64 x.s] := by rw [AH.get_put _ _ _ _ (by simp), if_pos rfl]
    generalize ((K.push [Value.int IntKind.i64 0, Value.int IntKind.i64 0, Value.int IntKind.i64 0]).put K.size (some [Value.int IntKind.i64 x.f, Value.int IntKind.i64 x.t, Value.int IntKind.i64 x.s])) = G at *
    have hvG := hva.ext hE1
    have hs := Lfs.ext hs hE1
    have hEG := hE.trans hE1
    have hrG : G.ro ≤ G.size := by have := hE1.ro; have := hE1.size; omega
    obtain ⟨ps, hps⟩ : ∃ ps, ps = placeL l i := ⟨_, rfl⟩
    rw [← hps] at hvG
    have hpl : ps.length = i := by rw [hps, placeL_len]
    refine Sat_loop 3000 (fun kk M V => ∃ (k : Nat) (vt x7 x8 : Value), k ≤ i ∧ kk = i - k ∧ Ext G M ∧ OwnS G M vt (thereP l ps i k) ∧ V = [.slice a l.length c, .slice none 0 0, va, .int .i64 i, .pointer (some ⟨K.size, 0, none⟩), vt, x7, x8, .slice a l.length c, .int .i64 l.length, .int .i64 i, .slice sa i sc, .int .i64 i, .int .i64 k]) i ⟨0, _, _, _, by omega, rfl, Ext.refl _, Own.nil, rfl⟩ ?_
    rintro kk M V ⟨k, vt, x7, x8, hk, rfl, hEM, hvt, rfl⟩ ih2
    have hrM : M.ro ≤ M.size := by have := hEM.ro; have := hEM.size; omega
    simp (disch := omega) only [go_sem, Nat.reduceEqDiff, Nat.reduceAdd, ↓reduceIte, get_pushB, get_putB, pickB_t, pickB_f, eqB_t, eqB_f, ltB_t, leB_t, AH.size_push, AH.size_put, AH.ro_push, AH.ro_put]
    refine Split.mk (fun h2 => ?_) (fun h2 => ?_)
    · have hki : k < i := by omega
      have hsM := Lfs.ext hs hEM
      have hgM := hEM.get _ _ hgx
      have hKM : K.size < M.size := AH.lt_of_get hgM
      have hvM := hvG.ext hEM
      have y2 := ixL hsM .i64 (k : Int) (by omega)
      have z2 := ldL hsM (k : Int) (by omega)
      have etk : (l.take i)[k]! = l[k]! := by
        rw [List.getElem!_eq_getElem?_getD, List.getElem!_eq_getElem?_getD, List.getElem?_take, if_pos hki]
      simp only [Int.toNat_natCast] at z2
      rw [etk] at z2
      obtain ⟨p1, p2, p3, p4, p5, -⟩ := okL_of hm (show k < l.length by omega)
      have tyes := thereP_yes l ps i k
      have tno := thereP_no l ps i k
      obtain ⟨y, hy⟩ : ∃ y, y = l[k]! := ⟨_, rfl⟩
      rw [← hy] at z2 p1 p2 p3 p4 p5 tyes tno
      rw [← hx] at tyes tno
      simp (disch := omega) only [go_sem, Nat.reduceEqDiff, Nat.reduceAdd, ↓reduceIte, get_pushB, get_putB, pickB_t, pickB_f, eqB_t, eqB_f, ltB_t, leB_t, AH.size_push, AH.size_put, AH.ro_push, AH.ro_put, y2, z2, lfv, hgM]
      refine Split.mk (fun h3 => ?_) (fun h3 => ?_)
      · have hE2 : Ext M ((M.push [Value.int IntKind.i64 0, Value.int IntKind.i64 0, Value.int IntKind.i64 0]).put M.size (some [Value.int IntKind.i64 y.f, Value.int IntKind.i64 y.t, Value.int IntKind.i64 y.s])) := (Fr.put M.size _ (by simp) _).ext (Ext.push M _) (Nat.le_refl _)
        have hgy : ((M.push [Value.int IntKind.i64 0, Value.int IntKind.i64 0, Value.int IntKind.i64 0]).put M.size (some [Value.int IntKind.i64 y.f, Value.int IntKind.i64 y.t, Value.int IntKind.i64 y.s])).get M.size = some [Value.int IntKind.i64 y.f, Value.int IntKind.i64 y.t, Value.int IntKind.i64 y.s] := by rw [AH.get_put _ _ _ _ (by simp), if_pos rfl]
        generalize ((M.push [Value.int IntKind.i64 0, Value.int IntKind.i64 0, Value.int IntKind.i64 0]).put M.size (some [Value.int IntKind.i64 y.f, Value.int IntKind.i64 y.t, Value.int IntKind.i64 y.s])) = N at *
        have hvN := (hvM.ext hE2).ints
        have hEN := hEM.trans hE2
        have hrN : N.ro ≤ N.size := by have := hE2.ro; have := hE2.size; omega
        have hgi : gi ps k = ps[k]! := by rw [List.getElem!_eq_getElem?_getD]; simp [gi]
        have hpb : 0 ≤ ps[k]! ∧ ps[k]! ≤ 4096 * 300 := by
          have h5 := placeL_bd l i (fun k hk => by have := okL_of hm (show k < l.length by omega); omega) ps[k]! (by rw [← hps, List.getElem!_eq_getElem?_getD, List.getElem?_eq_getElem (by omega)]; exact List.getElem_mem _)
          omega
        obtain ⟨pa, pc, rfl⟩ := hvN.inv
        have y3 := ixI hvN .i64 (k : Int) (by omega)
        have z3 := ldI hvN (k : Int) (by omega)
        rw [hgi] at z3
        obtain ⟨pk, hpk⟩ : ∃ p, p = ps[k]! := ⟨_, rfl⟩
        rw [← hpk] at z3 hpb tyes
        have hEp := Ext.push N [.int .i64 pk, .int .i64 (pk + y.s)]
        obtain ⟨v', N', ea, ho, hE3⟩ := Own.append stS ((Own.ext hvt hE2).ext hEp) hrG (hEN.trans hEp) (x := .slice (some ⟨N.size, 0, none⟩) 1 2) (m := 1) rfl (afirst_block (by rw [AH.get_push, if_pos rfl]) rfl) rfl (by have := thereP_len l ps i k; omega)
        have hos : OwnS G N' v' (thereP l ps i k ++ [(pk, pk + y.s)]) := by
          unfold OwnS
          rw [List.length_append, List.flatMap_append]
          exact ho
        simp (disch := omega) only [go_sem, Nat.reduceEqDiff, Nat.reduceAdd, ↓reduceIte, get_pushB, get_putB, pickB_t, pickB_f, eqB_t, eqB_f, ltB_t, leB_t, AH.size_push, AH.size_put, AH.ro_push, AH.ro_put, y3, z3, hgy, bdS, bslice_1' stS, ea]
        refine ih2 _ _ _ ?_ ⟨k + 1, v', _, _, by omega, rfl, hE3, by rw [tyes (by omega)]; exact hos, by simp only [Int.natCast_add]; rfl⟩
        omega
      · simp (disch := omega) only [go_sem, Nat.reduceEqDiff, Nat.reduceAdd, ↓reduceIte, get_pushB, get_putB, pickB_t, pickB_f, eqB_t, eqB_f, ltB_t, leB_t, AH.size_push, AH.size_put, AH.ro_push, AH.ro_put]
        refine ih2 _ _ _ ?_ ⟨k + 1, vt, _, _, by omega, rfl, hEM.trans ((Fr.put M.size _ (by simp) _).ext (Ext.push M _) (Nat.le_refl _)), by rw [tno (by omega)]; exact Own.ext hvt ((Fr.put M.size _ (by simp) _).ext (Ext.push M _) (Nat.le_refl _)), by simp only [Int.natCast_add]; rfl⟩
        omega
    · obtain rfl : k = i := by omega
      simp (disch := omega) only [go_sem, Nat.reduceEqDiff, Nat.reduceAdd, ↓reduceIte, get_pushB, get_putB, pickB_t, pickB_f, eqB_t, eqB_f, ltB_t, leB_t, AH.size_push, AH.size_put, AH.ro_push, AH.ro_put]
      refine callW_of (SortS_ok G M vt _ hvt hEM hrM (by have := thereP_len l ps k k; omega)) ?_
      rintro r N ⟨rfl, hsv, hEN⟩
      have hgN := hEN.get _ _ hgx
      have hrN : N.ro ≤ N.size := by have := hEN.ro; have := hEN.size; omega
      have hBd : SpB (sortL (thereP l ps k k)).toArray := by
        intro y hy
        have hy := (sortL_perm _).mem_iff.1 (by simpa using hy)
        unfold thereP at hy
        rw [List.mem_map] at hy
        obtain ⟨j, hj, rfl⟩ := hy
        rw [List.mem_filter, List.mem_range] at hj
        have hj1 : j < ps.length := by omega
        have h1 := placeL_bd l k (fun q hq => by have := okL_of hm (show q < l.length by omega); omega) ps[j]! (by rw [← hps, List.getElem!_eq_getElem?_getD, List.getElem?_eq_getElem hj1]; exact List.getElem_mem hj1)
        have h2 := okL_of hm (show j < l.length by omega)
        simp only []
        omega
      simp (disch := omega) only [go_sem, Nat.reduceEqDiff, Nat.reduceAdd, ↓reduceIte, get_pushB, get_putB, pickB_t, pickB_f, eqB_t, eqB_f, ltB_t, leB_t, AH.size_push, AH.size_put, AH.ro_push, AH.ro_put, hgN]
      refine callW_of (gap_ok N vt _ x.s hsv hBd (by omega) hrN) ?_
      rintro r N2 ⟨rfl, hEg⟩
      have hvN := (hvG.ext hEN).ext hEg
      have hEp := Ext.push N2 [.int .i64 (gapF x.s (sortL (thereP l ps k k)))]
      have hEH := ((hEG.trans hEN).trans hEg).trans hEp
      obtain ⟨v', N3, ea, ho, hE3⟩ := OwnI.app (hvN.ext hEp) hr0 hEH (x := .slice (some ⟨N2.size, 0, none⟩) 1 1) (m := [gapF x.s (sortL (thereP l ps k k))]) rfl (afirst_block (by rw [AH.get_push, if_pos rfl]; rfl) rfl) (by simp [hpl]; omega)
      have eb := bslice_1 stI (.int .i64 (gapF x.s (sortL (thereP l ps k k)))) rfl N2.size
      simp (disch := omega) only [go_sem, Nat.reduceEqDiff, Nat.reduceAdd, ↓reduceIte, get_pushB, get_putB, pickB_t, pickB_f, eqB_t, eqB_f, ltB_t, leB_t, AH.size_push, AH.size_put, AH.ro_push, AH.ro_put, eb, ea]
      refine ih _ _ _ ?_ ⟨k + 1, v', _, _, _, _, _, _, _, _, by omega, rfl, hE3, ?_, by simp only [Int.natCast_add]; rfl⟩
      · omega
      · rw [placeL, ← hps, ← hx]
        exact ho
  · obtain rfl : i = l.length := by omega
    simp (disch := omega) only [go_sem, Nat.reduceEqDiff, Nat.reduceAdd, ↓reduceIte, get_pushB, get_putB, pickB_t, pickB_f, eqB_t, eqB_f, ltB_t, leB_t, AH.size_push, AH.size_put, AH.ro_push, AH.ro_put]
    exact ⟨hva, hE⟩
end Go.Proofs.A

/- Arena: Place, Height. -/
set_option linter.unusedVariables false
set_option maxRecDepth 8000
set_option maxHeartbeats 4000000
set_option linter.unusedSimpArgs false
namespace Go.Proofs.A
open Go Go.Ab
theorem OwnI.isA {H0 H : AH} {v : Value} {l : List Int} (h : OwnI H0 H v l) : isA v = true := by
  obtain ⟨a, c, rfl⟩ := h.ints.inv
  rfl
theorem Place_ok (H : AH) (hr0 : H.ro ≤ H.size) (l : List Lf) (v : Value) (h : Lfs H v l) : Runs tb 8 [v] H (fun r H' => (∃ w, r = .tuple #[w, .int .i64 (if mayL l then 0 else 1)] ∧ OwnI H H' w (if mayL l then placeL l l.length else [])) ∧ Ext H H') := by
  refine Runs_fn (fn := Try.f8) [.tmp 2, .tmp 3] [0, 2, 3] [] 3000 (by kernel_rfl) rfl (by kernel_rfl) (by kernel_rfl) rfl ?_; simp only [pad, argAt]
  simp (disch := omega) only [go_sem, Nat.reduceEqDiff, Nat.reduceAdd, ↓reduceIte, get_pushB, get_putB, pickB_t, pickB_f, eqB_t, eqB_f, ltB_t, leB_t, AH.size_push, AH.size_put, AH.ro_push, AH.ro_put]
  refine callW_of (may_ok H hr0 l v h) ?_
  rintro r G ⟨rfl, hE⟩
  have hrG : G.ro ≤ G.size := by have := hE.ro; have := hE.size; omega
  cases hm : mayL l
  · simp (disch := omega) only [go_sem, Nat.reduceEqDiff, Nat.reduceAdd, ↓reduceIte, get_pushB, get_putB, pickB_t, pickB_f, eqB_t, eqB_f, ltB_t, leB_t, AH.size_push, AH.size_put, AH.ro_push, AH.ro_put]
    exact ⟨⟨_, rfl, OwnI.nil H G⟩, hE⟩
  · simp (disch := omega) only [go_sem, Nat.reduceEqDiff, Nat.reduceAdd, ↓reduceIte, get_pushB, get_putB, pickB_t, pickB_f, eqB_t, eqB_f, ltB_t, leB_t, AH.size_push, AH.size_put, AH.ro_push, AH.ro_put]
    refine callW_of (places_ok G hrG l v (h.ext hE) hm) ?_
    rintro r G2 ⟨ho, hE2⟩
    simp (disch := omega) only [go_sem, Nat.reduceEqDiff, Nat.reduceAdd, ↓reduceIte, get_pushB, get_putB, pickB_t, pickB_f, eqB_t, eqB_f, ltB_t, leB_t, AH.size_push, AH.size_put, AH.ro_push, AH.ro_put]
    exact ⟨ho.isA, ⟨_, rfl, OwnI.weak ho hE.size hE.ro hr0⟩, hE.trans hE2⟩
end Go.Proofs.A

/- Arena: Height. -/
set_option linter.unusedVariables false
set_option maxRecDepth 8000
set_option maxHeartbeats 4000000
set_option linter.unusedSimpArgs false
namespace Go.Proofs.A
open Go Go.Ab
def hgt (l : List Lf) (ps : List Int) : Nat → Int
  | 0 => 0
  | i + 1 => max (hgt l ps i) (ps[i]! + l[i]!.s)
theorem hgt_bd (l : List Lf) (ps : List Int) (i : Nat) (hs : ∀ k, k < i → 0 ≤ ps[k]! + l[k]!.s ∧ ps[k]! + l[k]!.s ≤ 10000000) : 0 ≤ hgt l ps i ∧ hgt l ps i ≤ 10000000 := by
  induction i with
  | zero => simp [hgt]
  | succ i ih =>
    have := ih (fun k hk => hs k (by omega))
    have := hs i (by omega)
    simp only [hgt]
    omega
theorem place_at (l : List Lf) (hm : mayL l = true) (k : Nat) (hk : k < l.length) : 0 ≤ (placeL l l.length)[k]! ∧ (placeL l l.length)[k]! ≤ 4096 * 300 := by
  have hlen := mayL_len hm
  have h := placeL_bd l l.length (fun q hq => by have := okL_of hm hq; omega) (placeL l l.length)[k]! (by rw [List.getElem!_eq_getElem?_getD, List.getElem?_eq_getElem (by rw [placeL_len]; exact hk)]; exact List.getElem_mem _)
  omega
theorem amax2 (k : IntKind) (x y : Int) : amax true (.int k x) [.int k y] = some (.int k (max x y)) := by
  have : max x y = if y > x then y else x := by rw [Int.max_def]; split <;> split <;> omega
  rw [this]; rfl
theorem Height_ok (H : AH) (hr0 : H.ro ≤ H.size) (l : List Lf) (v : Value) (h : Lfs H v l) : Runs tb 14 [v] H (fun r H' => r = .tuple #[.int .i64 (if mayL l then hgt l (placeL l l.length) l.length else 0), .int .i64 (if mayL l then 0 else 1)] ∧ Ext H H') := by
  obtain ⟨a, c, rfl⟩ := h.inv
  refine Runs_fn (fn := Try.f14) [.tmp 2, .tmp 3] [0, 2, 3, 4, 5, 6, 11, 12, 13] [] 3000 (by kernel_rfl) rfl (by kernel_rfl) (by kernel_rfl) rfl ?_; simp only [pad, argAt]
  simp (disch := omega) only [go_sem, Nat.reduceEqDiff, Nat.reduceAdd, ↓reduceIte, get_pushB, get_putB, pickB_t, pickB_f, eqB_t, eqB_f, ltB_t, leB_t, AH.size_push, AH.size_put, AH.ro_push, AH.ro_put]
  refine callW_of (may_ok H hr0 l _ h) ?_
  rintro r G ⟨rfl, hE⟩
  have hrG : G.ro ≤ G.size := by have := hE.ro; have := hE.size; omega
  cases hm : mayL l
  · simp (disch := omega) only [go_sem, Nat.reduceEqDiff, Nat.reduceAdd, ↓reduceIte, get_pushB, get_putB, pickB_t, pickB_f, eqB_t, eqB_f, ltB_t, leB_t, AH.size_push, AH.size_put, AH.ro_push, AH.ro_put]
    exact hE
  · simp (disch := omega) only [go_sem, Nat.reduceEqDiff, Nat.reduceAdd, ↓reduceIte, get_pushB, get_putB, pickB_t, pickB_f, eqB_t, eqB_f, ltB_t, leB_t, AH.size_push, AH.size_put, AH.ro_push, AH.ro_put]
    refine callW_of (places_ok G hrG l _ (h.ext hE) hm) ?_
    rintro r G2 ⟨ho, hE2⟩
    have hL := (h.ext hE).ext hE2
    have hlen := mayL_len hm
    obtain ⟨pa, pc, rfl⟩ := ho.ints.inv
    have hpl := placeL_len l l.length
    have hI := ho.ints
    have hall : ∀ k, k < l.length → 0 ≤ (placeL l l.length)[k]! + l[k]!.s ∧ (placeL l l.length)[k]! + l[k]!.s ≤ 10000000 := fun k hk => by
      have := place_at l hm k hk
      have := okL_of hm hk
      omega
    obtain ⟨ps, hps⟩ : ∃ ps, ps = placeL l l.length := ⟨_, rfl⟩
    rw [← hps] at hpl hI hall ⊢
    simp (disch := omega) only [go_sem, Nat.reduceEqDiff, Nat.reduceAdd, ↓reduceIte, get_pushB, get_putB, pickB_t, pickB_f, eqB_t, eqB_f, ltB_t, leB_t, AH.size_push, AH.size_put, AH.ro_push, AH.ro_put]
    refine Sat_loop 3000 (fun k K V => ∃ (j : Nat) (x5 x6 : Value), j ≤ l.length ∧ k = l.length - j ∧ K = G2 ∧ V = [.slice a l.length c, .int .i64 0, .int .i64 0, .int .i64 (hgt l ps j), x5, x6, .slice pa ps.length pc, .int .i64 ps.length, .int .i64 j]) l.length ⟨0, _, _, by omega, rfl, rfl, rfl⟩ ?_
    rintro k K V ⟨j, x5, x6, hj, rfl, rfl, rfl⟩ ih
    obtain ⟨hb1, hb2⟩ := hgt_bd l ps j (fun q hq => hall q (by omega))
    simp (disch := omega) only [go_sem, Nat.reduceEqDiff, Nat.reduceAdd, ↓reduceIte, get_pushB, get_putB, pickB_t, pickB_f, eqB_t, eqB_f, ltB_t, leB_t, AH.size_push, AH.size_put, AH.ro_push, AH.ro_put]
    refine Split.mk (fun h2 => ?_) (fun h2 => ?_)
    · have hlt : j < l.length := by omega
      have hjb := hall j hlt
      have y1 := ixI hI .i64 (j : Int) (by omega)
      have z1 := ldI hI (j : Int) (by omega)
      have hgi : gi ps j = ps[j]! := by rw [List.getElem!_eq_getElem?_getD]; simp [gi]
      rw [hgi] at z1
      have y2 := ixL hL .i64 (j : Int) (by omega)
      have f2 := (faL hL (j : Int) (by omega)).2.2
      have z2 := (lfL hL (j : Int) (by omega)).2.2
      simp only [Int.toNat_natCast] at z2
      simp (disch := omega) only [go_sem, Nat.reduceEqDiff, Nat.reduceAdd, ↓reduceIte, get_pushB, get_putB, pickB_t, pickB_f, eqB_t, eqB_f, ltB_t, leB_t, AH.size_push, AH.size_put, AH.ro_push, AH.ro_put, y1, z1, y2, f2, z2, amax2]
      refine ih _ _ _ ?_ ⟨j + 1, _, _, by omega, rfl, rfl, by simp only [Int.natCast_add, hgt]; rfl⟩
      omega
    · obtain rfl : j = l.length := by omega
      simp (disch := omega) only [go_sem, Nat.reduceEqDiff, Nat.reduceAdd, ↓reduceIte, get_pushB, get_putB, pickB_t, pickB_f, eqB_t, eqB_f, ltB_t, leB_t, AH.size_push, AH.size_put, AH.ro_push, AH.ro_put]
      exact hE.trans hE2
end Go.Proofs.A

/- Arena: clash. -/
set_option linter.unusedVariables false
set_option maxRecDepth 8000
set_option maxHeartbeats 4000000
set_option linter.unusedSimpArgs false
namespace Go.Proofs.A
open Go Go.Ab
def clashP (x y : Lf) (a b : Int) : Bool := decide (x.f < y.t ∧ y.f < x.t ∧ a < b + y.s ∧ b < a + x.s)
theorem clash_ok (H : AH) (hr0 : H.ro ≤ H.size) (x y : Lf) (a b : Int) (hb : 0 ≤ a ∧ a ≤ 1000000000 ∧ 0 ≤ b ∧ b ≤ 1000000000 ∧ 0 ≤ x.s ∧ x.s ≤ 4096 ∧ 0 ≤ y.s ∧ y.s ≤ 4096) : Runs tb 31 [lfv x, lfv y, .int .i64 a, .int .i64 b] H (fun r H' => r = .bool (clashP x y a b) ∧ Ext H H') := by
  unfold lfv
  refine Runs_fn (fn := Try.f31) [.tmp 8] [0, 1, 2, 3, 4, 5, 8] [] 3000 (by kernel_rfl) rfl (by kernel_rfl) (by kernel_rfl) rfl ?_; simp only [pad, argAt]
  simp (disch := omega) only [go_sem, Nat.reduceEqDiff, Nat.reduceAdd, ↓reduceIte, get_pushB, get_putB, pickB_t, pickB_f, eqB_t, eqB_f, ltB_t, leB_t, AH.size_push, AH.size_put, AH.ro_push, AH.ro_put]
  refine SplitG.mk (fun g1 => ?_) (fun g1 => ?_)
  · simp (disch := omega) only [go_sem, Nat.reduceEqDiff, Nat.reduceAdd, ↓reduceIte, get_pushB, get_putB, pickB_t, pickB_f, eqB_t, eqB_f, ltB_t, leB_t, AH.size_push, AH.size_put, AH.ro_push, AH.ro_put]
    refine SplitG.mk (fun g2 => ?_) (fun g2 => ?_)
    · simp (disch := omega) only [go_sem, Nat.reduceEqDiff, Nat.reduceAdd, ↓reduceIte, get_pushB, get_putB, pickB_t, pickB_f, eqB_t, eqB_f, ltB_t, leB_t, AH.size_push, AH.size_put, AH.ro_push, AH.ro_put]
      refine SplitG.mk (fun g3 => ?_) (fun g3 => ?_)
      · simp (disch := omega) only [go_sem, Nat.reduceEqDiff, Nat.reduceAdd, ↓reduceIte, get_pushB, get_putB, pickB_t, pickB_f, eqB_t, eqB_f, ltB_t, leB_t, AH.size_push, AH.size_put, AH.ro_push, AH.ro_put]
        exact ⟨congrArg _ (decide_eq_decide.2 (by omega)), (Ext.push H _).trans (Ext.push _ _)⟩
      · simp (disch := omega) only [go_sem, Nat.reduceEqDiff, Nat.reduceAdd, ↓reduceIte, get_pushB, get_putB, pickB_t, pickB_f, eqB_t, eqB_f, ltB_t, leB_t, AH.size_push, AH.size_put, AH.ro_push, AH.ro_put]
        exact ⟨congrArg _ (decide_eq_false (by omega)).symm, (Ext.push H _).trans (Ext.push _ _)⟩
    · simp (disch := omega) only [go_sem, Nat.reduceEqDiff, Nat.reduceAdd, ↓reduceIte, get_pushB, get_putB, pickB_t, pickB_f, eqB_t, eqB_f, ltB_t, leB_t, AH.size_push, AH.size_put, AH.ro_push, AH.ro_put]
      exact ⟨congrArg _ (decide_eq_false (by omega)).symm, (Ext.push H _).trans (Ext.push _ _)⟩
  · simp (disch := omega) only [go_sem, Nat.reduceEqDiff, Nat.reduceAdd, ↓reduceIte, get_pushB, get_putB, pickB_t, pickB_f, eqB_t, eqB_f, ltB_t, leB_t, AH.size_push, AH.size_put, AH.ro_push, AH.ro_put]
    exact ⟨congrArg _ (decide_eq_false (by omega)).symm, (Ext.push H _).trans (Ext.push _ _)⟩
end Go.Proofs.A
