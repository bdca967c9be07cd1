/- The greatest of so many side by side: pick. -/
import Derived.Test.YtcbmnjhdeklkmaaO6
set_option linter.unusedVariables false
set_option maxRecDepth 8000
set_option maxHeartbeats 4000000
set_option linter.unusedSimpArgs false
namespace Go.Proofs.K
open Go Go.Ab
def pickStep (n : Nat) (la lb : List Int) : Nat → List Int → List Int := fun i L => L.set (i * n + greatP la n i) (gi lb (i : Int))
def pickI (da la lb : List Int) (n k : Nat) : List Int := iter (pickStep n la lb) k (List.replicate (prodL da).toNat 0)
theorem pickI_len (da la lb : List Int) (n k : Nat) : (pickI da la lb n k).length = (prodL da).toNat :=
  iter_inv (fun (x : List Int) => x.length = (prodL da).toNat) _ (fun n x h => by simp [pickStep, h]) k _ (by simp)
theorem Pick_ok (H : AH) (h0 : H.ro ≤ H.size) (a b : Ten) (va vb : Value) (m : Nat) (ha : TenV H va a) (hb : TenV H vb b) (ta : isT a = true) (tb' : isT b = true) (hn : 1 ≤ (m : Int) ∧ (m : Int) ≤ 8) : Runs tb 69 [va, vb, .int .i64 m] H (DoPost H (if lessOk a.1 m = true ∧ lessP a.1 m = b.1 then (a.1, pickI a.1 a.2 b.2 m b.2.length) else ([], [])) (if lessOk a.1 m = true ∧ lessP a.1 m = b.1 then 0 else 4)) := by
  obtain ⟨ad, ax, rfl, had, hax⟩ := id ha
  obtain ⟨bd, bx, rfl, hbd, hbx⟩ := id hb
  obtain ⟨ma, lp, la⟩ := isT_spec ta
  obtain ⟨mb, lpb, lb⟩ := isT_spec tb'
  obtain ⟨pa, ca, rfl⟩ := had.inv
  obtain ⟨pb, cb, rfl⟩ := hbd.inv
  obtain ⟨qa, da, rfl⟩ := hax.inv
  obtain ⟨qb, db, rfl⟩ := hbx.inv
  refine Runs_fn (fn := Try.f69) [.cell 6 32, .tmp 7] [0, 1, 2, 3, 4, 6, 7, 8, 9, 10, 11, 12, 39, 40, 41] [(12, [(1, 16)])] 3000 (by kernel_rfl) rfl (by kernel_rfl) (by kernel_rfl) rfl ?_; simp only [pad, argAt]
  simp (disch := omega) only [go_sem, Nat.reduceEqDiff, Nat.reduceAdd, ↓reduceIte, get_pushB, get_putB, pickB_t, pickB_f, eqB_t, eqB_f, ltB_t, leB_t, AH.size_push, AH.size_put, AH.ro_push, AH.ro_put]
  refine callW_gen ?_
  intro G hG
  have hE : Ext H G := by rw [hG]; exact ((Ext.push _ _).pushed _).pushed _
  have hr := hE.ro
  have hs := hE.size
  have ga : G.get H.size = some [.slice pa a.1.length ca, .slice qa a.2.length da] := by rw [hG]; (try simp (disch := omega) only [get_pushB, get_putB, pickB_t, pickB_f, eqB_t, eqB_f, ltB_t, AH.size_push, AH.size_put, AH.ro_push, AH.ro_put])
  have gb : G.get (H.size + 1) = some [.slice pb b.1.length cb, .slice qb b.2.length db] := by rw [hG]; (try simp (disch := omega) only [get_pushB, get_putB, pickB_t, pickB_f, eqB_t, eqB_f, ltB_t, AH.size_push, AH.size_put, AH.ro_push, AH.ro_put])
  have g0 : G.get (H.size + 1 + 1) = some [.slice none 0 0, .slice none 0 0] := by rw [hG]; (try simp (disch := omega) only [get_pushB, get_putB, pickB_t, pickB_f, eqB_t, eqB_f, ltB_t, AH.size_push, AH.size_put, AH.ro_push, AH.ro_put])
  have hsz : G.size = H.size + 3 := by rw [hG]; rfl
  clear hG
  refine callW_of (Is_ok G b _ (TenV.mono hE hb)) ?_
  rintro r G0 ⟨rfl, hE0⟩
  have hr0 := hE0.ro
  have hs0 := hE0.size
  have ga := hE0.get _ _ ga
  have gb := hE0.get _ _ gb
  have g0 := hE0.get _ _ g0
  have hE := hE.trans hE0
  simp (disch := omega) only [go_sem, Nat.reduceEqDiff, Nat.reduceAdd, ↓reduceIte, get_pushB, get_putB, pickB_t, pickB_f, eqB_t, eqB_f, ltB_t, leB_t, AH.size_push, AH.size_put, AH.ro_push, AH.ro_put, tb', ga]
  refine callW_of (asked_ok G0 (by omega) a m _ (TenV.mono hE ha) ta hn) ?_
  rintro r G1 ⟨u, rfl, hu1, hu2, hE1⟩
  have hr1 := hE1.ro
  have hs1 := hE1.size
  have ga := hE1.get _ _ ga
  have gb := hE1.get _ _ gb
  have g0 := hE1.get _ _ g0
  have hE := hE.trans hE1
  by_cases e : lessOk a.1 m = true
  · have hod0 := hu1 e
    have hdd : Ints G1 u (lessP a.1 m) := OwnI.ints hod0
    obtain ⟨pu, cu, rfl⟩ := hdd.inv
    have md := lessP_may ma hn e
    have hpr := less_prod ma hn e
    simp only [if_pos e]
    simp (disch := omega) only [go_sem, Nat.reduceEqDiff, Nat.reduceAdd, ↓reduceIte, get_pushB, get_putB, pickB_t, pickB_f, eqB_t, eqB_f, ltB_t, leB_t, AH.size_push, AH.size_put, AH.ro_push, AH.ro_put, decide_true, decide_false, not_true_eq_false, ne_eq, Int.reduceEq, not_false_eq_true, gb]
    refine callW_of (Equal_ok G1 (lessP a.1 m) b.1 _ _ hdd (Ints.mono hE hbd)) ?_
    rintro r G1' ⟨rfl, rfl⟩
    by_cases e2 : lessP a.1 m = b.1
    · have e2' : decide (lessP a.1 m = b.1) = true := by simp [e2]
      rw [if_pos ⟨e, e2⟩, if_pos ⟨e, e2⟩]
      simp (disch := omega) only [go_sem, Nat.reduceEqDiff, Nat.reduceAdd, ↓reduceIte, get_pushB, get_putB, pickB_t, pickB_f, eqB_t, eqB_f, ltB_t, leB_t, AH.size_push, AH.size_put, AH.ro_push, AH.ro_put, e2', ga]
      refine callW_of (New_ok G1' (by omega) a.1 _ (Ints.mono hE had) ma) ?_
      rintro r G3 ⟨⟨nd, nx, rfl, hod, hox, hne⟩, hE3⟩
      have hr3 := hE3.ro
      have hs3 := hE3.size
      have hbd3 := Own.blk hod _ _ _ rfl
      have hbx3 := Own.blk hox _ _ _ rfl
      simp only at hbd3 hbx3
      have ga := hE3.get _ _ ga
      have gb := hE3.get _ _ gb
      have g0 := hE3.get _ _ g0
      have hpd := prodL_pos ma
      have hpm := prodL_pos mb
      generalize hN : (prodL a.1).toNat = N at *
      simp only [List.length_replicate] at hod hox ⊢
      simp (disch := omega) only [go_sem, Nat.reduceEqDiff, Nat.reduceAdd, ↓reduceIte, get_pushB, get_putB, pickB_t, pickB_f, eqB_t, eqB_f, ltB_t, leB_t, AH.size_push, AH.size_put, AH.ro_push, AH.ro_put, gb]
      refine Sat_gen ?_
      intro G4 hG4
      have hE4 : Ext G3 G4 := by rw [hG4]; exact (Ext.push _ _).put (Nat.le_refl _) (by simp only [AH.size_push]; omega) _
      have hs4 : G4.size = G3.size + 1 := by rw [hG4]; rfl
      have kt : G4.get G3.size = some [.slice (some ⟨nd, 0, none⟩) a.1.length 1, .slice (some ⟨nx, 0, none⟩) N 1] := by rw [hG4]; (try simp (disch := omega) only [get_pushB, get_putB, pickB_t, pickB_f, eqB_t, eqB_f, ltB_t, AH.size_push, AH.size_put, AH.ro_push, AH.ro_put])
      have hr4 := hE4.ro
      clear hG4
      have ga := hE4.get _ _ ga
      have gb := hE4.get _ _ gb
      have g0 := hE4.get _ _ g0
      have hEH := hE.trans (hE3.trans hE4)
      have hox0 : OwnI G1' G4 (.slice (some ⟨nx, 0, none⟩) N 1) (pickI a.1 a.2 b.2 m 0) := by
        have := hox.ext hE4
        rw [show pickI a.1 a.2 b.2 m 0 = List.replicate N 0 by rw [← hN]; rfl]
        simpa [OwnI] using this
      have hNm : a.2.length = b.2.length * m := by
        have : (a.2.length : Int) = ((b.2.length * m : Nat) : Int) := by rw [lp, hpr, e2, Int.natCast_mul, lpb]
        omega
      have hN64 : b.2.length * m ≤ 64 := by omega
      refine Sat_loop 3000 (fun k H' V => ∃ (i : Nat) (x y : Value), i ≤ b.2.length ∧ k = b.2.length - i ∧ Fr nx G4 H' ∧ OwnI G1' H' (.slice (some ⟨nx, 0, none⟩) N 1) (pickI a.1 a.2 b.2 m i) ∧ V = [.agg #[.slice pa a.1.length ca, .slice qa a.2.length da], .agg #[.slice pb b.1.length cb, .slice qb b.2.length db], .int .i64 m, .pointer (some ⟨H.size, 0, none⟩), .pointer (some ⟨H.size + 1, 0, none⟩), .pointer (some ⟨H.size + 1 + 1, 0, none⟩), .int .i64 0, .slice pu (lessP a.1 m).length cu, .int .i64 0, .pointer (some ⟨G3.size, 0, none⟩), x, y, .slice qb b.2.length db, .int .i64 b.2.length, .int .i64 i]) b.2.length ⟨0, _, _, by omega, by omega, Fr.refl _ _, hox0, rfl⟩ ?_
      rintro k H' V ⟨i, x, y, hi, rfl, hF, ho, rfl⟩ ih
      have ja := hF.get _ _ (by omega) ga
      have jt := hF.get _ _ (by omega) kt
      have hrF := hF.ro
      have hsF := hF.size
      have hEF := hF.ext hEH (by omega)
      have hbx' := Ints.mono hEF hbx
      have hlen : (pickI a.1 a.2 b.2 m i).length = N := by rw [pickI_len, hN]
      simp (disch := omega) only [go_sem, Nat.reduceEqDiff, Nat.reduceAdd, ↓reduceIte, get_pushB, get_putB, pickB_t, pickB_f, eqB_t, eqB_f, ltB_t, leB_t, AH.size_push, AH.size_put, AH.ro_push, AH.ro_put]
      refine Split.mk (fun h1 => ?_) (fun h1 => ?_)
      · have hi2 : i < b.2.length := by omega
        obtain ⟨sa, sc, es, hs⟩ := side_sl (Ints.mono hEF hax) hNm hi2
        have hsl := sideP_len hNm hi2
        have hgl := fstP_lt (sideP a.2 m i) m (by omega)
        have b1 : aload tb 23 (.pointer (some ⟨G3.size, 1, none⟩)) H'.get = some (.slice (some ⟨nx, 0, none⟩) N 1) := by simp (disch := omega) only [go_sem, Nat.reduceEqDiff, Nat.reduceAdd, ↓reduceIte, get_pushB, get_putB, pickB_t, pickB_f, eqB_t, eqB_f, ltB_t, leB_t, AH.size_push, AH.size_put, AH.ro_push, AH.ro_put, jt]
        have b2 : aload tb 23 (.pointer (some ⟨H.size, 1, none⟩)) H'.get = some (.slice qa a.2.length da) := by simp (disch := omega) only [go_sem, Nat.reduceEqDiff, Nat.reduceAdd, ↓reduceIte, get_pushB, get_putB, pickB_t, pickB_f, eqB_t, eqB_f, ltB_t, leB_t, AH.size_push, AH.size_put, AH.ro_push, AH.ro_put, ja]
        have d1 : (i + 1) * m ≤ b.2.length * m := Nat.mul_le_mul_right _ hi2
        have d2 : ((i * m : Nat) : Int) = (i : Int) * m := Int.natCast_mul ..
        rw [Nat.succ_mul] at d1
        simp (disch := omega) only [go_sem, Nat.reduceEqDiff, Nat.reduceAdd, ↓reduceIte, get_pushB, get_putB, pickB_t, pickB_f, eqB_t, eqB_f, ltB_t, leB_t, AH.size_push, AH.size_put, AH.ro_push, AH.ro_put, ja, jt, es, ixI hbx', ldI hbx']
        refine ⟨by (repeat' apply And.intro) <;> first | trivial | exact Same.of b1 b1 (by simp [seqV, seq1]) | exact Same.of b2 b2 (by simp [seqV, seq1]), ?_⟩
        refine callW_of (greatest_ok H' (sideP a.2 m i) _ hs (by omega)) ?_
        rintro r H2 ⟨rfl, rfl⟩
        rw [hsl]
        have hs' : Ints H2 (.slice sa m sc) (sideP a.2 m i) := hs
        obtain ⟨hst, ho2, hb1, hb2⟩ := ho.set ((i : Int) * m + (fstP (sideP a.2 m i) m : Int)) (gi b.2 i) (by omega)
        simp (disch := omega) only [go_sem, Nat.reduceEqDiff, Nat.reduceAdd, ↓reduceIte, get_pushB, get_putB, pickB_t, pickB_f, eqB_t, eqB_f, ltB_t, leB_t, AH.size_push, AH.size_put, AH.ro_push, AH.ro_put, ixI ho.ints, hst]
        refine ⟨by (repeat' apply And.intro) <;> first | trivial | exact Same.of b1 b1 (by simp [seqV, seq1]) | exact Same.of b2 b2 (by simp [seqV, seq1]), ?_⟩
        refine ih _ _ _ ?_ ⟨i + 1, .int .i64 i, _, ?_, rfl, hF.trans (Fr.put nx _ hb1 _), ?_, rfl⟩
        · omega
        · omega
        · have e1 : ((i : Int) * m + (fstP (sideP a.2 m i) m : Int)).toNat = i * m + greatP a.2 m i := by
            show _ = i * m + fstP (sideP a.2 m i) m
            omega
          rw [e1] at ho2 ⊢
          exact ho2
      · have hiN : i = b.2.length := by omega
        subst hiN
        have j0 := hF.get _ _ (by omega) g0
        have hod2 : OwnI G1' H' (.slice (some ⟨nd, 0, none⟩) a.1.length 1) a.1 := Own.fr (hod.ext hE4) hF (fun a n k e => by cases e; exact hne)
        have hT : OwnTD G1' H' (.agg #[.slice (some ⟨nd, 0, none⟩) a.1.length 1, .slice (some ⟨nx, 0, none⟩) N 1]) (a.1, pickI a.1 a.2 b.2 m b.2.length) := ⟨_, _, rfl, hod2, ho, fun a n k e b m j e2 => by cases e; cases e2; exact fun e => hne e.symm⟩
        simp (disch := omega) only [go_sem, Nat.reduceEqDiff, Nat.reduceAdd, ↓reduceIte, get_pushB, get_putB, pickB_t, pickB_f, eqB_t, eqB_f, ltB_t, leB_t, AH.size_push, AH.size_put, AH.ro_push, AH.ro_put, j0, jt]
        exact ⟨_, rfl, hT.out hE h0 (by omega) _, hEF.put (by omega) (by omega) _⟩
    · have e2' : decide (lessP a.1 m = b.1) = false := by simp [e2]
      rw [if_neg (fun h => e2 h.2), if_neg (fun h => e2 h.2)]
      simp (disch := omega) only [go_sem, Nat.reduceEqDiff, Nat.reduceAdd, ↓reduceIte, get_pushB, get_putB, pickB_t, pickB_f, eqB_t, eqB_f, ltB_t, leB_t, AH.size_push, AH.size_put, AH.ro_push, AH.ro_put, e2', abT0, g0]
      exact ⟨_, rfl, OwnTD.none _ _, Ext.put hE (by omega) (by omega) _⟩
  · simp only [if_neg e, if_neg (show ¬(lessOk a.1 m = true ∧ lessP a.1 m = b.1) from fun h => e h.1)]
    have := hu2 (by simpa using e)
    subst this
    simp (disch := omega) only [go_sem, Nat.reduceEqDiff, Nat.reduceAdd, ↓reduceIte, get_pushB, get_putB, pickB_t, pickB_f, eqB_t, eqB_f, ltB_t, leB_t, AH.size_push, AH.size_put, AH.ro_push, AH.ro_put, decide_true, decide_false, not_true_eq_false, ne_eq, Int.reduceEq, not_false_eq_true, abT0, g0]
    exact ⟨_, rfl, OwnTD.none _ _, Ext.put hE (by omega) (by omega) _⟩
theorem RefPick_ok (H : AH) (h0 : H.ro ≤ H.size) (a b : Ten) (va vb : Value) (m : Nat) (ha : TenV H va a) (hb : TenV H vb b) (ta : isT a = true) (tb' : isT b = true) (hn : 1 ≤ (m : Int) ∧ (m : Int) ≤ 8) (e : lessOk a.1 m = true) (e2 : lessP a.1 m = b.1) : Runs tb 97 [va, vb, .int .i64 m] H (fun r H' => OwnTD H H' r (a.1, pickI a.1 a.2 b.2 m b.2.length) ∧ Ext H H') := by
  obtain ⟨ad, ax, rfl, had, hax⟩ := id ha
  obtain ⟨bd, bx, rfl, hbd, hbx⟩ := id hb
  obtain ⟨ma, lp, la⟩ := isT_spec ta
  obtain ⟨mb, lpb, lb⟩ := isT_spec tb'
  obtain ⟨pa, ca, rfl⟩ := had.inv
  obtain ⟨pb, cb, rfl⟩ := hbd.inv
  obtain ⟨qa, da, rfl⟩ := hax.inv
  obtain ⟨qb, db, rfl⟩ := hbx.inv
  have hpr := less_prod ma hn e
  have hpd := prodL_pos ma
  have hpm := prodL_pos mb
  refine Runs_fn (fn := Try.f97) [.cell 6 32] [0, 1, 2, 3, 4, 6, 7, 8] [(5, [(1, 16), (19, 16), (22, 16)])] 3000 (by kernel_rfl) rfl (by kernel_rfl) (by kernel_rfl) rfl ?_; simp only [pad, argAt]
  simp (disch := omega) only [go_sem, Nat.reduceEqDiff, Nat.reduceAdd, ↓reduceIte, get_pushB, get_putB, pickB_t, pickB_f, eqB_t, eqB_f, ltB_t, leB_t, AH.size_push, AH.size_put, AH.ro_push, AH.ro_put]
  refine callW_gen ?_
  intro G2 hG2
  have hE : Ext H G2 := by rw [hG2]; exact ((Ext.push _ _).pushed _).pushed _
  have hsz2 : G2.size = H.size + 3 := by rw [hG2]; rfl
  have hr2 := hE.ro
  have ga : G2.get H.size = some [.slice pa a.1.length ca, .slice qa a.2.length da] := by rw [hG2]; (try simp (disch := omega) only [get_pushB, get_putB, pickB_t, pickB_f, eqB_t, eqB_f, ltB_t, AH.size_push, AH.size_put, AH.ro_push, AH.ro_put])
  have gb : G2.get (H.size + 1) = some [.slice pb b.1.length cb, .slice qb b.2.length db] := by rw [hG2]; (try simp (disch := omega) only [get_pushB, get_putB, pickB_t, pickB_f, eqB_t, eqB_f, ltB_t, AH.size_push, AH.size_put, AH.ro_push, AH.ro_put])
  have g0 : G2.get (H.size + 1 + 1) = some [.slice none 0 0, .slice none 0 0] := by rw [hG2]; (try simp (disch := omega) only [get_pushB, get_putB, pickB_t, pickB_f, eqB_t, eqB_f, ltB_t, AH.size_push, AH.size_put, AH.ro_push, AH.ro_put])
  clear hG2
  refine callW_of (RefFill_ok G2 (by omega) _ 0 _ (Ints.mono hE had) ma) ?_
  rintro r G3 ⟨⟨vd, vx, rfl, hod, hox, hne⟩, hE3⟩
  obtain ⟨pd, cd, rfl⟩ := hod.ints.inv
  obtain ⟨nx, rfl⟩ := hox.block (by intro h; have := congrArg List.length h; simp at this; omega)
  generalize hN : (prodL a.1).toNat = N at *
  simp only [List.length_replicate] at hox hne hod ⊢
  have hr3 := hE3.ro
  have hs3 := hE3.size
  have hbx3 := Own.blk hox _ _ _ rfl
  simp only at hbx3
  have ga := hE3.get _ _ ga
  have gb := hE3.get _ _ gb
  have g0 := hE3.get _ _ g0
  simp (disch := omega) only [go_sem, Nat.reduceEqDiff, Nat.reduceAdd, ↓reduceIte, get_pushB, get_putB, pickB_t, pickB_f, eqB_t, eqB_f, ltB_t, leB_t, AH.size_push, AH.size_put, AH.ro_push, AH.ro_put]
  refine Sat_gen ?_
  intro G4 hG4
  have hE4 : Ext G3 G4 := by rw [hG4]; exact (Ext.push _ _).put (Nat.le_refl _) (by simp only [AH.size_push]; omega) _
  have hs4 : G4.size = G3.size + 1 := by rw [hG4]; rfl
  have kt : G4.get G3.size = some [.slice pd a.1.length cd, .slice (some ⟨nx, 0, none⟩) N 1] := by rw [hG4]; (try simp (disch := omega) only [get_pushB, get_putB, pickB_t, pickB_f, eqB_t, eqB_f, ltB_t, AH.size_push, AH.size_put, AH.ro_push, AH.ro_put])
  have hr4 := hE4.ro
  clear hG4
  have ga := hE4.get _ _ ga
  have gb := hE4.get _ _ gb
  have g0 := hE4.get _ _ g0
  have hEH := hE.trans (hE3.trans hE4)
  have hox0 : OwnI G2 G4 (.slice (some ⟨nx, 0, none⟩) N 1) (pickI a.1 a.2 b.2 m 0) := by
    have := hox.ext hE4
    rw [show pickI a.1 a.2 b.2 m 0 = List.replicate N 0 by rw [← hN]; rfl]
    simpa [OwnI] using this
  have hNm : a.2.length = b.2.length * m := by
    have : (a.2.length : Int) = ((b.2.length * m : Nat) : Int) := by rw [lp, hpr, e2, Int.natCast_mul, lpb]
    omega
  have hN64 : b.2.length * m ≤ 64 := by omega
  refine Sat_loop 3000 (fun k H' V => ∃ (i : Nat), i ≤ b.2.length ∧ k = b.2.length - i ∧ Fr nx G4 H' ∧ OwnI G2 H' (.slice (some ⟨nx, 0, none⟩) N 1) (pickI a.1 a.2 b.2 m i) ∧ V = [.agg #[.slice pa a.1.length ca, .slice qa a.2.length da], .agg #[.slice pb b.1.length cb, .slice qb b.2.length db], .int .i64 m, .pointer (some ⟨H.size, 0, none⟩), .pointer (some ⟨H.size + 1, 0, none⟩), .pointer (some ⟨H.size + 1 + 1, 0, none⟩), .pointer (some ⟨G3.size, 0, none⟩), .int .i64 i]) b.2.length ⟨0, by omega, by omega, Fr.refl _ _, hox0, rfl⟩ ?_
  rintro k H' V ⟨i, hi, rfl, hF, ho, rfl⟩ ih
  have ja := hF.get _ _ (by omega) ga
  have jb := hF.get _ _ (by omega) gb
  have jt := hF.get _ _ (by omega) kt
  have hrF := hF.ro
  have hsF := hF.size
  have hEF := hF.ext hEH (by omega)
  have hbx' := Ints.mono hEF hbx
  have hlen : (pickI a.1 a.2 b.2 m i).length = N := by rw [pickI_len, hN]
  simp (disch := omega) only [go_sem, Nat.reduceEqDiff, Nat.reduceAdd, ↓reduceIte, get_pushB, get_putB, pickB_t, pickB_f, eqB_t, eqB_f, ltB_t, leB_t, AH.size_push, AH.size_put, AH.ro_push, AH.ro_put, jb]
  refine Split.mk (fun h1 => ?_) (fun h1 => ?_)
  · have hi2 : i < b.2.length := by omega
    obtain ⟨sa, sc, es, hs⟩ := side_sl (Ints.mono hEF hax) hNm hi2
    have hsl := sideP_len hNm hi2
    have hgl := fstP_lt (sideP a.2 m i) m (by omega)
    have b1 : aload tb 23 (.pointer (some ⟨G3.size, 1, none⟩)) H'.get = some (.slice (some ⟨nx, 0, none⟩) N 1) := by simp (disch := omega) only [go_sem, Nat.reduceEqDiff, Nat.reduceAdd, ↓reduceIte, get_pushB, get_putB, pickB_t, pickB_f, eqB_t, eqB_f, ltB_t, leB_t, AH.size_push, AH.size_put, AH.ro_push, AH.ro_put, jt]
    have b2 : aload tb 23 (.pointer (some ⟨H.size + 1, 1, none⟩)) H'.get = some (.slice qb b.2.length db) := by simp (disch := omega) only [go_sem, Nat.reduceEqDiff, Nat.reduceAdd, ↓reduceIte, get_pushB, get_putB, pickB_t, pickB_f, eqB_t, eqB_f, ltB_t, leB_t, AH.size_push, AH.size_put, AH.ro_push, AH.ro_put, jb]
    have d1 : (i + 1) * m ≤ b.2.length * m := Nat.mul_le_mul_right _ hi2
    have d2 : ((i * m : Nat) : Int) = (i : Int) * m := Int.natCast_mul ..
    rw [Nat.succ_mul] at d1
    simp (disch := omega) only [go_sem, Nat.reduceEqDiff, Nat.reduceAdd, ↓reduceIte, get_pushB, get_putB, pickB_t, pickB_f, eqB_t, eqB_f, ltB_t, leB_t, AH.size_push, AH.size_put, AH.ro_push, AH.ro_put, ja, jt, es]
    try (refine ⟨by (repeat' apply And.intro) <;> first | trivial | exact Same.of b1 b1 (by simp [seqV, seq1]) | exact Same.of b2 b2 (by simp [seqV, seq1]) | exact Same.of (ldI hbx' i (by omega)) (ldI hbx' i (by omega)) (by simp [seqV, seq1]), ?_⟩)
    refine callW_of (First_ok H' (sideP a.2 m i) _ hs (by omega)) ?_
    rintro r H2 ⟨rfl, rfl⟩
    rw [hsl]
    have hs' : Ints H2 (.slice sa m sc) (sideP a.2 m i) := hs
    obtain ⟨hst, ho2, hb1, hb2⟩ := ho.set ((i : Int) * m + (fstP (sideP a.2 m i) m : Int)) (gi b.2 i) (by omega)
    simp (disch := omega) only [go_sem, Nat.reduceEqDiff, Nat.reduceAdd, ↓reduceIte, get_pushB, get_putB, pickB_t, pickB_f, eqB_t, eqB_f, ltB_t, leB_t, AH.size_push, AH.size_put, AH.ro_push, AH.ro_put, jb, ixI hbx', ldI hbx', ixI ho.ints, hst]
    repeat (refine ⟨by (repeat' apply And.intro) <;> first | trivial | exact Same.of b1 b1 (by simp [seqV, seq1]) | exact Same.of b2 b2 (by simp [seqV, seq1]) | exact Same.of (ldI hbx' i (by omega)) (ldI hbx' i (by omega)) (by simp [seqV, seq1]), ?_⟩)
    refine ih _ _ _ ?_ ⟨i + 1, ?_, rfl, hF.trans (Fr.put nx _ hb1 _), ?_, rfl⟩
    · omega
    · omega
    · have e1 : ((i : Int) * m + (fstP (sideP a.2 m i) m : Int)).toNat = i * m + greatP a.2 m i := by
        show _ = i * m + fstP (sideP a.2 m i) m
        omega
      rw [e1] at ho2 ⊢
      exact ho2
  · have hiN : i = b.2.length := by omega
    subst hiN
    have j0 := hF.get _ _ (by omega) g0
    have hod2 : OwnI G2 H' (.slice pd a.1.length cd) a.1 := Own.fr (hod.ext hE4) hF (fun p q r e => fun e2 => hne _ _ _ e _ _ _ rfl e2.symm)
    have hT : OwnTD G2 H' (.agg #[.slice pd a.1.length cd, .slice (some ⟨nx, 0, none⟩) N 1]) (a.1, pickI a.1 a.2 b.2 m b.2.length) := ⟨_, _, rfl, hod2, ho, hne⟩
    simp (disch := omega) only [go_sem, Nat.reduceEqDiff, Nat.reduceAdd, ↓reduceIte, get_pushB, get_putB, pickB_t, pickB_f, eqB_t, eqB_f, ltB_t, leB_t, AH.size_push, AH.size_put, AH.ro_push, AH.ro_put, j0, jt]
    exact ⟨hT.out hE h0 (by omega) _, hEF.put (by omega) (by omega) _⟩
theorem PickI_ok (H : AH) (h0 : H.ro ≤ H.size) (a b : Ten) (va vb : Value) (n : Int) (ha : TenV H va a) (hb : TenV H vb b) (ta : isT a = true) (tb' : isT b = true) (hn : 1 ≤ n ∧ n ≤ 8) : Runs tb 69 [va, vb, .int .i64 n] H (DoPost H (if lessOk a.1 n = true ∧ lessP a.1 n = b.1 then (a.1, pickI a.1 a.2 b.2 n.toNat b.2.length) else ([], [])) (if lessOk a.1 n = true ∧ lessP a.1 n = b.1 then 0 else 4)) := by
  obtain ⟨m, rfl⟩ : ∃ m : Nat, n = m := ⟨n.toNat, by omega⟩
  exact Pick_ok H h0 a b va vb m ha hb ta tb' hn
theorem RefPickI_ok (H : AH) (h0 : H.ro ≤ H.size) (a b : Ten) (va vb : Value) (n : Int) (ha : TenV H va a) (hb : TenV H vb b) (ta : isT a = true) (tb' : isT b = true) (hn : 1 ≤ n ∧ n ≤ 8) (e : lessOk a.1 n = true) (e2 : lessP a.1 n = b.1) : Runs tb 97 [va, vb, .int .i64 n] H (fun r H' => OwnTD H H' r (a.1, pickI a.1 a.2 b.2 n.toNat b.2.length) ∧ Ext H H') := by
  obtain ⟨m, rfl⟩ : ∃ m : Nat, n = m := ⟨n.toNat, by omega⟩
  exact RefPick_ok H h0 a b va vb m ha hb ta tb' hn e e2
theorem dbl17_ok (H : AH) (h0 : H.ro ≤ H.size) (a b : Ten) (va vb : Value) (ha : TenV H va a) (hb : TenV H vb b) (ta : isT a = true) (tb' : isT b = true) (n : Int) (hn : 1 ≤ n ∧ n ≤ 8) :
    Runs tb 38 [.int .i64 17, .int .i64 n, va, vb] H (DoPost H (if lessOk a.1 n = true ∧ lessP a.1 n = b.1 then (a.1, pickI a.1 a.2 b.2 n.toNat b.2.length) else ([], [])) (if lessOk a.1 n = true ∧ lessP a.1 n = b.1 then 0 else 4)) := by
  obtain ⟨ad, ax, rfl, had, hax⟩ := id ha
  obtain ⟨bd, bx, rfl, hbd, hbx⟩ := id hb
  obtain ⟨pa, ca, rfl⟩ := had.inv
  obtain ⟨pb, cb, rfl⟩ := hbd.inv
  obtain ⟨qa, da, rfl⟩ := hax.inv
  obtain ⟨qb, db, rfl⟩ := hbx.inv
  refine Runs_fn (fn := Try.f38) [.cell 8 32, .tmp 9] [0, 1, 2, 3, 6, 7, 8, 9, 10] [] 3000 (by kernel_rfl) rfl (by kernel_rfl) (by kernel_rfl) rfl ?_; simp only [pad, argAt]
  simp (disch := omega) only [go_sem, Nat.reduceEqDiff, Nat.reduceAdd, ↓reduceIte, get_pushB, get_putB, pickB_t, pickB_f, eqB_t, eqB_f, ltB_t, leB_t, AH.size_push, AH.size_put, AH.ro_push, AH.ro_put, Int.reduceEq, decide_true, decide_false]
  refine callW_gen ?_
  intro G hG
  have hE : Ext H G := by rw [hG]; exact ((Ext.push _ _).pushed _).pushed _
  have hr := hE.ro
  have hs := hE.size
  have hsz : G.size = H.size + 3 := by rw [hG]; rfl
  have g0 : G.get (H.size + 1 + 1) = some [.slice none 0 0, .slice none 0 0] := by rw [hG]; (try simp (disch := omega) only [get_pushB, get_putB, pickB_t, pickB_f, eqB_t, eqB_f, ltB_t, AH.size_push, AH.size_put, AH.ro_push, AH.ro_put])
  clear hG
  refine callW_of (PickI_ok G (by omega) a b _ _ n (TenV.mono hE ha) (TenV.mono hE hb) ta tb' hn) ?_
  rintro r G4 ⟨u, rfl, hot, hE4⟩
  obtain ⟨vu, wu, rfl, hu1, hu2, _⟩ := id hot
  obtain ⟨pu, cu, rfl⟩ := hu1.ints.inv
  obtain ⟨pw, cw, rfl⟩ := hu2.ints.inv
  have q0 := hE4.get _ _ g0
  have hr4 := hE4.ro
  have hs4 := hE4.size
  simp (disch := omega) only [go_sem, Nat.reduceEqDiff, Nat.reduceAdd, ↓reduceIte, get_pushB, get_putB, pickB_t, pickB_f, eqB_t, eqB_f, ltB_t, leB_t, AH.size_push, AH.size_put, AH.ro_push, AH.ro_put, q0]
  exact ⟨_, rfl, hot.out hE h0 (by omega) _, (hE.trans hE4).put (by omega) (by omega) _⟩
theorem KindOk17 : KindOk 17 (fun n d l => pickI (l.getD 0 ([], [])).1 (l.getD 0 ([], [])).2 (l.getD 1 ([], [])).2 n.toNat (l.getD 1 ([], [])).2.length) where
  fill h := by omega
  one n d l h hl := by have := (doOk_form h).2.2.2.2; simp [manyP] at this; omega
  two n d l h hl G u w h0 hu hw := by
    have hA := (doOk_form h).2.2.1
    have hn : 1 ≤ n ∧ n ≤ 8 := by have := (formP_spec (doOk_form h).2.2.2.1).2.2.2.1; simpa [numberP] using this
    have := dbl17_ok G h0 _ _ u w hu hw (all_getD hA (by omega)) (all_getD hA (by omega)) n hn
    have e : doE (fun n d l => pickI (l.getD 0 ([], [])).1 (l.getD 0 ([], [])).2 (l.getD 1 ([], [])).2 n.toNat (l.getD 1 ([], [])).2.length) 17 n d l = (if lessOk (l.getD 0 ([], [])).1 n = true ∧ lessP (l.getD 0 ([], [])).1 n = (l.getD 1 ([], [])).1 then (((l.getD 0 ([], [])).1, pickI (l.getD 0 ([], [])).1 (l.getD 0 ([], [])).2 (l.getD 1 ([], [])).2 n.toNat (l.getD 1 ([], [])).2.length), 0) else (([], []), 4)) := by
      simp only [doE, h, if_true, dimsP, map_getD]
      simp only [Int.reduceEq, or_self, or_false, or_true, false_or, if_true, if_false]
      by_cases hC : lessOk (l.getD 0 ([], [])).1 n = true ∧ lessP (l.getD 0 ([], [])).1 n = (l.getD 1 ([], [])).1
      · simp only [if_pos hC]
      · simp only [if_neg hC]
    rw [e]
    split
    · rename_i hc; simp only [if_pos hc] at this; exact this
    · rename_i hc; simp only [if_neg hc] at this; exact this
  ref n d l x h hx G vd vl h0 hd hl := by
    have hA := (doOk_form h).2.2.1
    have hn : 1 ≤ n ∧ n ≤ 8 := by have := (formP_spec (doOk_form h).2.2.2.1).2.2.2.1; simpa [numberP] using this
    have hm := (doOk_form h).2.2.2.2
    have hlen : l.length = 2 := by simp [manyP] at hm; omega
    have hx2 : (lessOk (l.getD 0 ([], [])).1 n = true ∧ lessP (l.getD 0 ([], [])).1 n = (l.getD 1 ([], [])).1) ∧ x = (l.getD 0 ([], [])).1 := by
      simp only [dimsP, map_getD] at hx
      simp only [Int.reduceEq, or_self, or_false, or_true, false_or, if_true, if_false] at hx
      split at hx
      · rename_i hc; cases hx; exact ⟨hc, rfl⟩
      · cases hx
    obtain ⟨hC, rfl⟩ := hx2
    obtain ⟨pl, cl, rfl⟩ := hl.inv
    have ta := all_getD hA (i := 0) (by omega)
    have tb' := all_getD hA (i := 1) (by omega)
    have hP := Ext.push G [.slice none 0 0, .slice none 0 0]
    have hlP := Tens.mono hP hl
    obtain ⟨u0, hu0, ht0⟩ := ldT0 hl (by omega)
    have hu0 := fun (H' : AH) (hE' : Ext G H') => aload_ext hE' hu0
    obtain ⟨u1, hu1, ht1⟩ := ldT1 hl (by omega)
    have hu1 := fun (H' : AH) (hE' : Ext G H') => aload_ext hE' hu1
    refine Runs_fn (fn := Try.f48) [.cell 8 32] [0, 1, 2, 3, 8, 9] [(19, [(5, 1)])] 3000 (by kernel_rfl) rfl (by kernel_rfl) (by kernel_rfl) rfl ?_; simp only [pad, argAt]
    simp (disch := omega) only [go_sem, Nat.reduceEqDiff, Nat.reduceAdd, ↓reduceIte, get_pushB, get_putB, pickB_t, pickB_f, eqB_t, eqB_f, ltB_t, leB_t, AH.size_push, AH.size_put, AH.ro_push, AH.ro_put, Int.reduceEq, decide_true, decide_false, ixT hlP, hu0 _ hP, hu1 _ hP]
    refine callW_gen ?_
    intro G1 hG
    have hE : Ext G G1 := by rw [hG]; exact Ext.push _ _
    have g0 : G1.get G.size = some [.slice none 0 0, .slice none 0 0] := by rw [hG]; (try simp (disch := omega) only [get_pushB, get_putB, pickB_t, pickB_f, eqB_t, eqB_f, ltB_t, AH.size_push, AH.size_put, AH.ro_push, AH.ro_put])
    have hs : G1.size = G.size + 1 := by rw [hG]; rfl
    have hr := hE.ro
    clear hG
    refine callW_of (RefPickI_ok G1 (by omega) _ _ u0 u1 n (TenV.mono hE ht0) (TenV.mono hE ht1) ta tb' hn hC.1 hC.2) ?_
    rintro r H1 ⟨hot, hE1⟩
    obtain ⟨vu, wu, rfl, hu1, hu2, _⟩ := id hot
    obtain ⟨pu, cu, rfl⟩ := hu1.ints.inv
    obtain ⟨pw, cw, rfl⟩ := hu2.ints.inv
    have q0 := hE1.get _ _ g0
    have hr1 := hE1.ro
    have hs1 := hE1.size
    simp (disch := omega) only [go_sem, Nat.reduceEqDiff, Nat.reduceAdd, ↓reduceIte, get_pushB, get_putB, pickB_t, pickB_f, eqB_t, eqB_f, ltB_t, leB_t, AH.size_push, AH.size_put, AH.ro_push, AH.ro_put, q0]
    exact ⟨hot.out hE h0 (by omega) _, (hE.trans hE1).put (Nat.le_refl _) (by omega) _⟩
end Go.Proofs.K
