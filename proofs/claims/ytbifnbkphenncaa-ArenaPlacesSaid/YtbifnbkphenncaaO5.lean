/- Arena: the law ArenaPlaces. -/
import Derived.Test.YtbifnbkphenncaaO4
set_option linter.unusedVariables false
set_option maxRecDepth 8000
set_option maxHeartbeats 4000000
set_option linter.unusedSimpArgs false
namespace Go.Proofs.A
open Go Go.Ab
theorem ArenaPlaces_ok (H : AH) (h0 : H.ro ≤ H.size) (p : Ask) (vl vp : Value) (h : AskV H vl vp p) : Runs tb 5 [.agg #[vl, vp]] H (fun r _ => r = .bool true) := by
  obtain ⟨pl, cl, rfl⟩ := h.l.inv
  obtain ⟨pp, cp, rfl⟩ := h.p.inv
  have hbl := h.l.bd
  refine Runs_fn (fn := Try.f5) [.tmp 2] [0, 1, 2, 3, 4, 5, 6, 7, 8, 9, 10, 11, 12, 13, 14, 15, 16, 17] [(11, [(4, 2), (7, 2), (7, 5)])] 3000 (by kernel_rfl) rfl (by kernel_rfl) (by kernel_rfl) rfl ?_; simp only [pad, argAt]
  simp (disch := omega) only [go_sem, Nat.reduceEqDiff, Nat.reduceAdd, ↓reduceIte, get_pushB, get_putB, pickB_t, pickB_f, eqB_t, eqB_f, ltB_t, leB_t, AH.size_push, AH.size_put, AH.ro_push, AH.ro_put]
  have hgB : (H.push [Value.slice pl p.l.length cl, Value.slice pp p.p.length cp]).get H.size = some [Value.slice pl p.l.length cl, Value.slice pp p.p.length cp] := by rw [AH.get_push, if_pos rfl]
  have hr0 := push_ok h0 [Value.slice pl p.l.length cl, Value.slice pp p.p.length cp]
  have hB := h.mono (Ext.push H [Value.slice pl p.l.length cl, Value.slice pp p.p.length cp])
  generalize (H.push [Value.slice pl p.l.length cl, Value.slice pp p.p.length cp]) = G at *
  refine callW_of (Heavy2_ok G hr0 p _ _ hB) ?_
  rintro r G1 ⟨⟨b, rfl, hbw⟩, hE1⟩
  have hr1 : G1.ro ≤ G1.size := by have := hE1.ro; have := hE1.size; omega
  cases b
  · obtain ⟨hl5, hp5⟩ := hbw rfl
    have hg1 := hE1.get _ _ hgB
    have h1 := hB.mono hE1
    simp (disch := omega) only [go_sem, Nat.reduceEqDiff, Nat.reduceAdd, ↓reduceIte, get_pushB, get_putB, pickB_t, pickB_f, eqB_t, eqB_f, ltB_t, leB_t, AH.size_push, AH.size_put, AH.ro_push, AH.ro_put, hg1]
    refine callW_of (CopyLives_ok G1 hr1 p.l _ h1.l (by omega)) ?_
    rintro vin G2 ⟨hin, hE2⟩
    have hr2 : G2.ro ≤ G2.size := by have := hE2.ro; have := hE2.size; omega
    have hg2 := hE2.get _ _ hg1
    have h2 := h1.mono hE2
    have hin := hin.lfs
    obtain ⟨ia, ic, rfl⟩ := hin.inv
    simp (disch := omega) only [go_sem, Nat.reduceEqDiff, Nat.reduceAdd, ↓reduceIte, get_pushB, get_putB, pickB_t, pickB_f, eqB_t, eqB_f, ltB_t, leB_t, AH.size_push, AH.size_put, AH.ro_push, AH.ro_put, hg2]
    refine callW_of (Lives_ok G2 p.l _ h2.l) ?_
    rintro r G3 ⟨rfl, rfl⟩
    simp (disch := omega) only [go_sem, Nat.reduceEqDiff, Nat.reduceAdd, ↓reduceIte, get_pushB, get_putB, pickB_t, pickB_f, eqB_t, eqB_f, ltB_t, leB_t, AH.size_push, AH.size_put, AH.ro_push, AH.ro_put]
    refine callW_of (Place_ok G3 hr2 p.l _ hin) ?_
    rintro r G4 ⟨⟨x, rfl, hx⟩, hE4⟩
    have hr4 : G4.ro ≤ G4.size := by have := hE4.ro; have := hE4.size; omega
    have hg4 := hE4.get _ _ hg2
    have h4 := h2.mono hE4
    have hin4 := hin.ext hE4
    have hxI := hx.ints
    obtain ⟨xs, hxs⟩ : ∃ xs, xs = (if mayL p.l = true then placeL p.l p.l.length else []) := ⟨_, rfl⟩
    rw [← hxs] at hxI
    obtain ⟨xa, xc, rfl⟩ := hxI.inv
    simp (disch := omega) only [go_sem, Nat.reduceEqDiff, Nat.reduceAdd, ↓reduceIte, get_pushB, get_putB, pickB_t, pickB_f, eqB_t, eqB_f, ltB_t, leB_t, AH.size_push, AH.size_put, AH.ro_push, AH.ro_put]
    refine callW_of (Height_ok G4 hr4 p.l _ hin4) ?_
    rintro r G5 ⟨rfl, hE5⟩
    have hr5 : G5.ro ≤ G5.size := by have := hE5.ro; have := hE5.size; omega
    have hg5 := hE5.get _ _ hg4
    have h5 := h4.mono hE5
    have hin5 := hin4.ext hE5
    simp (disch := omega) only [go_sem, Nat.reduceEqDiff, Nat.reduceAdd, ↓reduceIte, get_pushB, get_putB, pickB_t, pickB_f, eqB_t, eqB_f, ltB_t, leB_t, AH.size_push, AH.size_put, AH.ro_push, AH.ro_put]
    refine callW_of (Bound_ok G5 hr5 p.l _ hin5) ?_
    rintro r G6 ⟨rfl, hE6⟩
    have hr6 : G6.ro ≤ G6.size := by have := hE6.ro; have := hE6.size; omega
    have hg6 := hE6.get _ _ hg5
    have h6 := h5.mono hE6
    have hin6 := hin5.ext hE6
    have hx6 := (hxI.mono hE5).mono hE6
    cases hm : mayL p.l
    · simp only [hm, Bool.false_eq_true, ↓reduceIte] at hxs ⊢
      subst hxs
      have hF := h6
      have hgF := hg6
      have hinF := hin6
      have hrF := hr6
      have hxF := hx6
      have hwF := (OwnI.nil G6 G6).ints
      simp (disch := omega) only [go_sem, Nat.reduceEqDiff, Nat.reduceAdd, ↓reduceIte, get_pushB, get_putB, pickB_t, pickB_f, eqB_t, eqB_f, ltB_t, leB_t, AH.size_push, AH.size_put, AH.ro_push, AH.ro_put]
      refine callW_of (num_ok _ _) ?_
      rintro r F1 ⟨rfl, rfl⟩
      simp (disch := omega) only [go_sem, Nat.reduceEqDiff, Nat.reduceAdd, ↓reduceIte, get_pushB, get_putB, pickB_t, pickB_f, eqB_t, eqB_f, ltB_t, leB_t, AH.size_push, AH.size_put, AH.ro_push, AH.ro_put]
      refine callW_of (num_ok _ _) ?_
      rintro r F1 ⟨rfl, rfl⟩
      simp (disch := omega) only [go_sem, Nat.reduceEqDiff, Nat.reduceAdd, ↓reduceIte, get_pushB, get_putB, pickB_t, pickB_f, eqB_t, eqB_f, ltB_t, leB_t, AH.size_push, AH.size_put, AH.ro_push, AH.ro_put]
      refine callW_of (num_ok _ _) ?_
      rintro r F1 ⟨rfl, rfl⟩
      simp (disch := omega) only [go_sem, Nat.reduceEqDiff, Nat.reduceAdd, ↓reduceIte, get_pushB, get_putB, pickB_t, pickB_f, eqB_t, eqB_f, ltB_t, leB_t, AH.size_push, AH.size_put, AH.ro_push, AH.ro_put]
      refine callW_of (EqNumbers_ok _ _ _ _ _ hxF hwF) ?_
      rintro r F2 ⟨rfl, rfl⟩
      rw [decide_eq_true rfl]
      simp (disch := omega) only [go_sem, Nat.reduceEqDiff, Nat.reduceAdd, ↓reduceIte, get_pushB, get_putB, pickB_t, pickB_f, eqB_t, eqB_f, ltB_t, leB_t, AH.size_push, AH.size_put, AH.ro_push, AH.ro_put, hgF]
      refine callW_of (EqLives_ok _ _ _ _ _ hinF hF.l) ?_
      rintro r F3 ⟨rfl, rfl⟩
      rw [decide_eq_true rfl]
      simp (disch := omega) only [go_sem, Nat.reduceEqDiff, Nat.reduceAdd, ↓reduceIte, get_pushB, get_putB, pickB_t, pickB_f, eqB_t, eqB_f, ltB_t, leB_t, AH.size_push, AH.size_put, AH.ro_push, AH.ro_put, many_make]
      have hEm := Ext.push F3 (flL (manyL 0))
      have hom : OwnL F3 (F3.push (flL (manyL 0))) (.slice (some ⟨F3.size, 0, none⟩) 301 3) (manyL 0) := Own.mk F3.size 301 _ (Nat.le_refl _) hrF rfl (by rw [AH.get_push, if_pos rfl]) (by rw [flL_len, manyL_len]) (by omega)
      refine Sat_loop 3000 (fun kk K V => ∃ (i : Nat), i ≤ 301 ∧ kk = 301 - i ∧ Ext F3 K ∧ OwnL F3 K (.slice (some ⟨F3.size, 0, none⟩) 301 3) (manyL i) ∧ V = [.agg #[.slice pl p.l.length cl, .slice pp p.p.length cp], .pointer (some ⟨H.size, 0, none⟩), .bool false, .slice ia p.l.length ic, .bool false, .slice xa ([] : List Int).length xc, .int .i64 1, .int .i64 0, .int .i64 1, .int .i64 0, .int .i64 1, .int .i64 1, .int .i64 0, .int .i64 0, .slice none 0 0, .slice (some ⟨F3.size, 0, none⟩) 301 3, .int .i64 i, undef]) 301 ⟨0, by omega, rfl, hEm, hom, rfl⟩ ?_
      rintro kk K V ⟨i, hi, rfl, hEK, hoK, rfl⟩ ih
      have hrK : K.ro ≤ K.size := by have := hEK.ro; have := hEK.size; omega
      have hml := manyL_len i
      simp (disch := omega) only [go_sem, Nat.reduceEqDiff, Nat.reduceAdd, ↓reduceIte, get_pushB, get_putB, pickB_t, pickB_f, eqB_t, eqB_f, ltB_t, leB_t, AH.size_push, AH.size_put, AH.ro_push, AH.ro_put]
      refine Split.mk (fun q1 => ?_) (fun q1 => ?_)
      · have y1 := ixL hoK.lfs .i64 (i : Int) (by omega)
        obtain ⟨es, ho2, hbs, hbK⟩ := hoK.set (i : Int) ⟨(i : Int), (i : Int) + 1, 1⟩ (by omega)
        unfold lfv at es
        rw [Int.toNat_natCast, manyL_step] at es ho2
        simp (disch := omega) only [go_sem, Nat.reduceEqDiff, Nat.reduceAdd, ↓reduceIte, get_pushB, get_putB, pickB_t, pickB_f, eqB_t, eqB_f, ltB_t, leB_t, AH.size_push, AH.size_put, AH.ro_push, AH.ro_put, bdL, y1, es]
        refine ih _ _ _ ?_ ⟨i + 1, by omega, rfl, hEK.put hbK hbs _, ho2, by simp only [Int.natCast_add]; rfl⟩
        omega
      · obtain rfl : i = 301 := by omega
        have hmL := hoK.lfs
        simp (disch := omega) only [go_sem, Nat.reduceEqDiff, Nat.reduceAdd, ↓reduceIte, get_pushB, get_putB, pickB_t, pickB_f, eqB_t, eqB_f, ltB_t, leB_t, AH.size_push, AH.size_put, AH.ro_push, AH.ro_put]
        refine callW_of (Place_ok K hrK _ _ hmL) ?_
        rintro r K1 ⟨⟨z, rfl, hz⟩, hK1⟩
        have hr1K : K1.ro ≤ K1.size := by have := hK1.ro; have := hK1.size; omega
        rw [manyL_may] at hz ⊢
        simp only [Bool.false_eq_true, ↓reduceIte] at hz ⊢
        obtain ⟨za, zc, rfl⟩ := hz.ints.inv
        obtain ⟨sa, sc, es, hs⟩ := Sl.sub (hmL.ext hK1) ty22 rfl ty27 rfl (some (.int .i64 1)) none 1 301 (by simp [abound, manyL_len]) (by simp [abound])
        have hs : Lfs K1 (.slice sa 300 sc) lateL := by
          have e : ((manyL 301).drop 1).take (301 - 1) = lateL := by
            unfold lateL; rw [List.take_of_length_le (by simp [manyL_len])]
          rw [e] at hs; exact hs
        simp (disch := omega) only [go_sem, Nat.reduceEqDiff, Nat.reduceAdd, ↓reduceIte, get_pushB, get_putB, pickB_t, pickB_f, eqB_t, eqB_f, ltB_t, leB_t, AH.size_push, AH.size_put, AH.ro_push, AH.ro_put, es]
        refine callW_of (Height_ok K1 hr1K lateL _ hs) ?_
        rintro r K2 ⟨rfl, hK2⟩
        have hr2K : K2.ro ≤ K2.size := by have := hK2.ro; have := hK2.size; omega
        rw [lateL_may, lateL_len, lateL_hgt]
        simp only [↓reduceIte]
        simp (disch := omega) only [go_sem, Nat.reduceEqDiff, Nat.reduceAdd, ↓reduceIte, get_pushB, get_putB, pickB_t, pickB_f, eqB_t, eqB_f, ltB_t, leB_t, AH.size_push, AH.size_put, AH.ro_push, AH.ro_put]
        refine callW_of (num_ok _ _) ?_
        rintro r K3 ⟨rfl, rfl⟩
        simp (disch := omega) only [go_sem, Nat.reduceEqDiff, Nat.reduceAdd, ↓reduceIte, get_pushB, get_putB, pickB_t, pickB_f, eqB_t, eqB_f, ltB_t, leB_t, AH.size_push, AH.size_put, AH.ro_push, AH.ro_put]
        refine callW_of (num_ok _ _) ?_
        rintro r K3 ⟨rfl, rfl⟩
        simp (disch := omega) only [go_sem, Nat.reduceEqDiff, Nat.reduceAdd, ↓reduceIte, get_pushB, get_putB, pickB_t, pickB_f, eqB_t, eqB_f, ltB_t, leB_t, AH.size_push, AH.size_put, AH.ro_push, AH.ro_put]
        refine callW_of (wakes_ok _ hr2K) ?_
        rintro r K3 ⟨rfl, hE9⟩
        simp (disch := omega) only [go_sem, Nat.reduceEqDiff, Nat.reduceAdd, ↓reduceIte, get_pushB, get_putB, pickB_t, pickB_f, eqB_t, eqB_f, ltB_t, leB_t, AH.size_push, AH.size_put, AH.ro_push, AH.ro_put]
    · simp only [hm, ↓reduceIte] at hxs ⊢
      simp (disch := omega) only [go_sem, Nat.reduceEqDiff, Nat.reduceAdd, ↓reduceIte, get_pushB, get_putB, pickB_t, pickB_f, eqB_t, eqB_f, ltB_t, leB_t, AH.size_push, AH.size_put, AH.ro_push, AH.ro_put, hg6]
      refine callW_of (RefPlace_ok G6 hr6 p.l _ h6.l hm) ?_
      rintro y G7 ⟨hy, hE7⟩
      have hyI := hy.ints
      rw [← hxs] at hyI
      obtain ⟨ya, yc, rfl⟩ := hyI.inv
      have hr7 : G7.ro ≤ G7.size := by have := hE7.ro; have := hE7.size; omega
      have hg7 := hE7.get _ _ hg6
      have h7 := h6.mono hE7
      simp (disch := omega) only [go_sem, Nat.reduceEqDiff, Nat.reduceAdd, ↓reduceIte, get_pushB, get_putB, pickB_t, pickB_f, eqB_t, eqB_f, ltB_t, leB_t, AH.size_push, AH.size_put, AH.ro_push, AH.ro_put, hg7]
      have ldG : ∀ K : AH, K.get H.size = some [Value.slice pl p.l.length cl, Value.slice pp p.p.length cp] → aload tb 22 (.pointer (some ⟨H.size, 0, none⟩)) K.get = some (.slice pl p.l.length cl) := fun K hk => by
        rw [load_pt ty22 rfl, hk]; rfl
      refine ⟨by (repeat' apply And.intro) <;> first | trivial | exact Same.of (ldG _ hg7) (ldG _ hg6) (by simp [seqV, seq1]) | exact Same.of (ldG _ hg7) (ldG _ hg7) (by simp [seqV, seq1]), ?_⟩
      refine callW_of (RefHeight_ok G7 hr7 p.l _ h7.l hm) ?_
      rintro r G8 ⟨rfl, hE8⟩
      have hg8 := hE8.get _ _ hg7
      have h8 := h7.mono hE8
      simp (disch := omega) only [go_sem, Nat.reduceEqDiff, Nat.reduceAdd, ↓reduceIte, get_pushB, get_putB, pickB_t, pickB_f, eqB_t, eqB_f, ltB_t, leB_t, AH.size_push, AH.size_put, AH.ro_push, AH.ro_put, hg8]
      refine ⟨by (repeat' apply And.intro) <;> first | trivial | exact Same.of (ldG _ hg8) (ldG _ hg6) (by simp [seqV, seq1]) | exact Same.of (ldG _ hg8) (ldG _ hg7) (by simp [seqV, seq1]) | exact Same.of (ldG _ hg8) (ldG _ hg8) (by simp [seqV, seq1]), ?_⟩
      refine callW_of (RefBound_ok G8 p.l _ h8.l hm) ?_
      rintro r G9 ⟨rfl, rfl⟩
      have hF := h8
      have hgF := hg8
      have hinF := (hin6.ext hE7).ext hE8
      have hrF : G9.ro ≤ G9.size := by have := hE8.ro; have := hE8.size; omega
      have hxF := (hx6.mono hE7).mono hE8
      have hwF := hyI.mono hE8
      simp (disch := omega) only [go_sem, Nat.reduceEqDiff, Nat.reduceAdd, ↓reduceIte, get_pushB, get_putB, pickB_t, pickB_f, eqB_t, eqB_f, ltB_t, leB_t, AH.size_push, AH.size_put, AH.ro_push, AH.ro_put]
      refine callW_of (num_ok _ _) ?_
      rintro r F1 ⟨rfl, rfl⟩
      simp (disch := omega) only [go_sem, Nat.reduceEqDiff, Nat.reduceAdd, ↓reduceIte, get_pushB, get_putB, pickB_t, pickB_f, eqB_t, eqB_f, ltB_t, leB_t, AH.size_push, AH.size_put, AH.ro_push, AH.ro_put]
      refine callW_of (num_ok _ _) ?_
      rintro r F1 ⟨rfl, rfl⟩
      simp (disch := omega) only [go_sem, Nat.reduceEqDiff, Nat.reduceAdd, ↓reduceIte, get_pushB, get_putB, pickB_t, pickB_f, eqB_t, eqB_f, ltB_t, leB_t, AH.size_push, AH.size_put, AH.ro_push, AH.ro_put]
      refine callW_of (num_ok _ _) ?_
      rintro r F1 ⟨rfl, rfl⟩
      simp (disch := omega) only [go_sem, Nat.reduceEqDiff, Nat.reduceAdd, ↓reduceIte, get_pushB, get_putB, pickB_t, pickB_f, eqB_t, eqB_f, ltB_t, leB_t, AH.size_push, AH.size_put, AH.ro_push, AH.ro_put]
      refine callW_of (EqNumbers_ok _ _ _ _ _ hxF hwF) ?_
      rintro r F2 ⟨rfl, rfl⟩
      rw [decide_eq_true rfl]
      simp (disch := omega) only [go_sem, Nat.reduceEqDiff, Nat.reduceAdd, ↓reduceIte, get_pushB, get_putB, pickB_t, pickB_f, eqB_t, eqB_f, ltB_t, leB_t, AH.size_push, AH.size_put, AH.ro_push, AH.ro_put, hgF]
      refine callW_of (EqLives_ok _ _ _ _ _ hinF hF.l) ?_
      rintro r F3 ⟨rfl, rfl⟩
      rw [decide_eq_true rfl]
      simp (disch := omega) only [go_sem, Nat.reduceEqDiff, Nat.reduceAdd, ↓reduceIte, get_pushB, get_putB, pickB_t, pickB_f, eqB_t, eqB_f, ltB_t, leB_t, AH.size_push, AH.size_put, AH.ro_push, AH.ro_put, many_make]
      have hEm := Ext.push F3 (flL (manyL 0))
      have hom : OwnL F3 (F3.push (flL (manyL 0))) (.slice (some ⟨F3.size, 0, none⟩) 301 3) (manyL 0) := Own.mk F3.size 301 _ (Nat.le_refl _) hrF rfl (by rw [AH.get_push, if_pos rfl]) (by rw [flL_len, manyL_len]) (by omega)
      refine Sat_loop 3000 (fun kk K V => ∃ (i : Nat), i ≤ 301 ∧ kk = 301 - i ∧ Ext F3 K ∧ OwnL F3 K (.slice (some ⟨F3.size, 0, none⟩) 301 3) (manyL i) ∧ V = [.agg #[.slice pl p.l.length cl, .slice pp p.p.length cp], .pointer (some ⟨H.size, 0, none⟩), .bool false, .slice ia p.l.length ic, .bool true, .slice xa xs.length xc, .int .i64 0, .int .i64 (hgt p.l (placeL p.l p.l.length) p.l.length), .int .i64 0, .int .i64 (bmost p.l p.l.length), .int .i64 0, .int .i64 0, .int .i64 (hgt p.l (placeL p.l p.l.length) p.l.length), .int .i64 (bmost p.l p.l.length), .slice ya xs.length yc, .slice (some ⟨F3.size, 0, none⟩) 301 3, .int .i64 i, undef]) 301 ⟨0, by omega, rfl, hEm, hom, rfl⟩ ?_
      rintro kk K V ⟨i, hi, rfl, hEK, hoK, rfl⟩ ih
      have hrK : K.ro ≤ K.size := by have := hEK.ro; have := hEK.size; omega
      have hml := manyL_len i
      simp (disch := omega) only [go_sem, Nat.reduceEqDiff, Nat.reduceAdd, ↓reduceIte, get_pushB, get_putB, pickB_t, pickB_f, eqB_t, eqB_f, ltB_t, leB_t, AH.size_push, AH.size_put, AH.ro_push, AH.ro_put]
      refine Split.mk (fun q1 => ?_) (fun q1 => ?_)
      · have y1 := ixL hoK.lfs .i64 (i : Int) (by omega)
        obtain ⟨es, ho2, hbs, hbK⟩ := hoK.set (i : Int) ⟨(i : Int), (i : Int) + 1, 1⟩ (by omega)
        unfold lfv at es
        rw [Int.toNat_natCast, manyL_step] at es ho2
        simp (disch := omega) only [go_sem, Nat.reduceEqDiff, Nat.reduceAdd, ↓reduceIte, get_pushB, get_putB, pickB_t, pickB_f, eqB_t, eqB_f, ltB_t, leB_t, AH.size_push, AH.size_put, AH.ro_push, AH.ro_put, bdL, y1, es]
        refine ih _ _ _ ?_ ⟨i + 1, by omega, rfl, hEK.put hbK hbs _, ho2, by simp only [Int.natCast_add]; rfl⟩
        omega
      · obtain rfl : i = 301 := by omega
        have hmL := hoK.lfs
        simp (disch := omega) only [go_sem, Nat.reduceEqDiff, Nat.reduceAdd, ↓reduceIte, get_pushB, get_putB, pickB_t, pickB_f, eqB_t, eqB_f, ltB_t, leB_t, AH.size_push, AH.size_put, AH.ro_push, AH.ro_put]
        refine callW_of (Place_ok K hrK _ _ hmL) ?_
        rintro r K1 ⟨⟨z, rfl, hz⟩, hK1⟩
        have hr1K : K1.ro ≤ K1.size := by have := hK1.ro; have := hK1.size; omega
        rw [manyL_may] at hz ⊢
        simp only [Bool.false_eq_true, ↓reduceIte] at hz ⊢
        obtain ⟨za, zc, rfl⟩ := hz.ints.inv
        obtain ⟨sa, sc, es, hs⟩ := Sl.sub (hmL.ext hK1) ty22 rfl ty27 rfl (some (.int .i64 1)) none 1 301 (by simp [abound, manyL_len]) (by simp [abound])
        have hs : Lfs K1 (.slice sa 300 sc) lateL := by
          have e : ((manyL 301).drop 1).take (301 - 1) = lateL := by
            unfold lateL; rw [List.take_of_length_le (by simp [manyL_len])]
          rw [e] at hs; exact hs
        simp (disch := omega) only [go_sem, Nat.reduceEqDiff, Nat.reduceAdd, ↓reduceIte, get_pushB, get_putB, pickB_t, pickB_f, eqB_t, eqB_f, ltB_t, leB_t, AH.size_push, AH.size_put, AH.ro_push, AH.ro_put, es]
        refine callW_of (Height_ok K1 hr1K lateL _ hs) ?_
        rintro r K2 ⟨rfl, hK2⟩
        have hr2K : K2.ro ≤ K2.size := by have := hK2.ro; have := hK2.size; omega
        rw [lateL_may, lateL_len, lateL_hgt]
        simp only [↓reduceIte]
        simp (disch := omega) only [go_sem, Nat.reduceEqDiff, Nat.reduceAdd, ↓reduceIte, get_pushB, get_putB, pickB_t, pickB_f, eqB_t, eqB_f, ltB_t, leB_t, AH.size_push, AH.size_put, AH.ro_push, AH.ro_put]
        refine callW_of (num_ok _ _) ?_
        rintro r K3 ⟨rfl, rfl⟩
        simp (disch := omega) only [go_sem, Nat.reduceEqDiff, Nat.reduceAdd, ↓reduceIte, get_pushB, get_putB, pickB_t, pickB_f, eqB_t, eqB_f, ltB_t, leB_t, AH.size_push, AH.size_put, AH.ro_push, AH.ro_put]
        refine callW_of (num_ok _ _) ?_
        rintro r K3 ⟨rfl, rfl⟩
        simp (disch := omega) only [go_sem, Nat.reduceEqDiff, Nat.reduceAdd, ↓reduceIte, get_pushB, get_putB, pickB_t, pickB_f, eqB_t, eqB_f, ltB_t, leB_t, AH.size_push, AH.size_put, AH.ro_push, AH.ro_put]
        refine callW_of (wakes_ok _ hr2K) ?_
        rintro r K3 ⟨rfl, hE9⟩
        simp (disch := omega) only [go_sem, Nat.reduceEqDiff, Nat.reduceAdd, ↓reduceIte, get_pushB, get_putB, pickB_t, pickB_f, eqB_t, eqB_f, ltB_t, leB_t, AH.size_push, AH.size_put, AH.ro_push, AH.ro_put]
  · simp (disch := omega) only [go_sem, Nat.reduceEqDiff, Nat.reduceAdd, ↓reduceIte, get_pushB, get_putB, pickB_t, pickB_f, eqB_t, eqB_f, ltB_t, leB_t, AH.size_push, AH.size_put, AH.ro_push, AH.ro_put]
end Go.Proofs.A
