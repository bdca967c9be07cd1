/- What goes through: step and relu. -/
import Derived.Test.YtcbmnjhdeklkmaaO1
set_option linter.unusedVariables false
set_option maxRecDepth 8000
set_option maxHeartbeats 4000000
set_option linter.unusedSimpArgs false
namespace Go.Proofs.K
open Go Go.Ab
def gateF (x y : Int) : Int := if 0 < x then y else 0
theorem take_zero (Z : List Int) (i : Nat) (h : i < Z.length) (hz : Z[i] = 0) : Z.take i ++ List.replicate (Z.length - i) 0 = Z.take (i + 1) ++ List.replicate (Z.length - (i + 1)) 0 := by
  obtain ⟨k, hk⟩ : ∃ k, Z.length - i = k + 1 := ⟨Z.length - i - 1, by omega⟩
  rw [hk, show Z.length - (i + 1) = k by omega, List.replicate_succ, ← List.take_append_getElem h, hz, List.append_assoc]
  rfl
theorem take_keep (Z A : List Int) (i : Nat) (h : i < Z.length) (hA : A.length = Z.length) (hz : Z[i] = A[i]) : Z.take i ++ A.drop i = Z.take (i + 1) ++ A.drop (i + 1) := by
  have hd : A.drop i = (A[i]'(by omega)) :: A.drop (i + 1) := (List.getElem_cons_drop (by omega)).symm
  rw [hd, ← List.take_append_getElem h, List.append_assoc, hz]
  rfl
theorem Step_ok (H : AH) (h0 : H.ro ≤ H.size) (a b : Ten) (va vb : Value) (ha : TenV H va a) (hb : TenV H vb b) (ta : isT a = true) (tb' : isT b = true) :
    Runs tb 68 [va, vb] H (DoPost H (if a.1 = b.1 then (a.1, List.zipWith gateF a.2 b.2) else ([], [])) (if a.1 = b.1 then 0 else 4)) := by
  obtain ⟨ad, ax, rfl, had, hax⟩ := id ha
  obtain ⟨bd, bx, rfl, hbd, hbx⟩ := id hb
  obtain ⟨ma, _, la⟩ := isT_spec ta
  obtain ⟨mb, _, lb⟩ := isT_spec tb'
  have hp := prodL_pos ma
  obtain ⟨pa, ca, rfl⟩ := had.inv
  obtain ⟨pb, cb, rfl⟩ := hbd.inv
  obtain ⟨qa, da, rfl⟩ := hax.inv
  obtain ⟨qb, db, rfl⟩ := hbx.inv
  refine Runs_fn (fn := Try.f68) [.cell 4 32, .tmp 5] [0, 1, 2, 3, 4, 5, 6, 7, 8, 28, 29, 30] [] 3000 (by kernel_rfl) rfl (by kernel_rfl) (by kernel_rfl) rfl ?_; simp only [pad, argAt]
  simp (disch := omega) only [go_sem, Nat.reduceEqDiff, Nat.reduceAdd, ↓reduceIte, get_pushB, get_putB, pickB_t, pickB_f, eqB_t, eqB_f, ltB_t, leB_t, AH.size_push, AH.size_put, AH.ro_push, AH.ro_put, bslice_2' stT (.slice pa a.1.length ca) (.slice qa a.2.length da) (.slice pb b.1.length cb) (.slice qb b.2.length db)]
  refine callW_gen ?_
  intro G hG
  have hE : Ext H G := by rw [hG]; exact (((Ext.push _ _).pushed _).pushed _).pushed _
  have hr := hE.ro
  have hs := hE.size
  have ga : G.get H.size = some [.slice pa a.1.length ca, .slice qa a.2.length da] := by rw [hG]; (try simp (disch := omega) only [get_pushB, get_putB, pickB_t, pickB_f, eqB_t, eqB_f, ltB_t, AH.size_push, AH.size_put, AH.ro_push, AH.ro_put])
  have gb : G.get (H.size + 1) = some [.slice pb b.1.length cb, .slice qb b.2.length db] := by rw [hG]; (try simp (disch := omega) only [get_pushB, get_putB, pickB_t, pickB_f, eqB_t, eqB_f, ltB_t, AH.size_push, AH.size_put, AH.ro_push, AH.ro_put])
  have g0 : G.get (H.size + 1 + 1) = some [.slice none 0 0, .slice none 0 0] := by rw [hG]; (try simp (disch := omega) only [get_pushB, get_putB, pickB_t, pickB_f, eqB_t, eqB_f, ltB_t, AH.size_push, AH.size_put, AH.ro_push, AH.ro_put])
  have gl : G.get (H.size + 1 + 1 + 1) = some [.slice pa a.1.length ca, .slice qa a.2.length da, .slice pb b.1.length cb, .slice qb b.2.length db] := by rw [hG]; (try simp (disch := omega) only [get_pushB, get_putB, pickB_t, pickB_f, eqB_t, eqB_f, ltB_t, AH.size_push, AH.size_put, AH.ro_push, AH.ro_put])
  have hsz : G.size = H.size + 4 := by rw [hG]; rfl
  clear hG
  have hl : Tens G (.slice (some ⟨H.size + 1 + 1 + 1, 0, none⟩) 2 2) [a, b] := by
    refine Own.sl (H0 := H) (Own.mk (H.size + 1 + 1 + 1) 2 _ (by omega) h0 hr gl rfl (by omega)) rfl fun q x hx => ?_
    match q, hx with
    | 0, hx => simp at hx; subst hx; exact ⟨_, _, rfl, rfl, Ints.mono hE had, Ints.mono hE hax⟩
    | 1, hx => simp at hx; subst hx; exact ⟨_, _, rfl, rfl, Ints.mono hE hbd, Ints.mono hE hbx⟩
  refine callW_of (All_ok G [a, b] _ hl) ?_
  rintro r G1 ⟨rfl, hE1⟩
  have hr1 := hE1.ro
  have hs1 := hE1.size
  have ga := hE1.get _ _ ga
  have gb := hE1.get _ _ gb
  have g0 := hE1.get _ _ g0
  have hE := hE.trans hE1
  have hall : ([a, b] : List Ten).all isT = true := by simp [ta, tb']
  simp (disch := omega) only [go_sem, Nat.reduceEqDiff, Nat.reduceAdd, ↓reduceIte, get_pushB, get_putB, pickB_t, pickB_f, eqB_t, eqB_f, ltB_t, leB_t, AH.size_push, AH.size_put, AH.ro_push, AH.ro_put, hall, ga, gb]
  refine callW_of (Equal_ok G1 a.1 b.1 _ _ (Ints.mono hE had) (Ints.mono hE hbd)) ?_
  rintro r G1' ⟨rfl, rfl⟩
  by_cases e : a.1 = b.1
  · simp only [if_pos e]
    have e' : decide (a.1 = b.1) = true := by simp [e]
    simp (disch := omega) only [go_sem, Nat.reduceEqDiff, Nat.reduceAdd, ↓reduceIte, get_pushB, get_putB, pickB_t, pickB_f, eqB_t, eqB_f, ltB_t, leB_t, AH.size_push, AH.size_put, AH.ro_push, AH.ro_put, e']
    simp (disch := omega) only [go_sem, Nat.reduceEqDiff, Nat.reduceAdd, ↓reduceIte, get_pushB, get_putB, pickB_t, pickB_f, eqB_t, eqB_f, ltB_t, leB_t, AH.size_push, AH.size_put, AH.ro_push, AH.ro_put, ga]
    refine callW_of (New_ok G1' (by omega) a.1 _ (Ints.mono hE had) ma) ?_
    rintro r G2 ⟨⟨nd, nx, rfl, hod, hox, hne⟩, hE2⟩
    have hr2 := hE2.ro
    have hs2 := hE2.size
    have hbd2 := Own.blk hod _ _ _ rfl
    have hbx2 := Own.blk hox _ _ _ rfl
    simp only at hbd2 hbx2
    simp (disch := omega) only [go_sem, Nat.reduceEqDiff, Nat.reduceAdd, ↓reduceIte, get_pushB, get_putB, pickB_t, pickB_f, eqB_t, eqB_f, ltB_t, leB_t, AH.size_push, AH.size_put, AH.ro_push, AH.ro_put, hE2.get _ _ ga]
    generalize hN : (prodL a.1).toNat = N at *
    simp only [List.length_replicate] at hod hox ⊢
    have lb : b.2.length = N := by rw [lb, ← e, hN]
    refine Sat_gen ?_
    intro G3 hG3
    have hE3 : Ext G2 G3 := by rw [hG3]; exact (Ext.push _ _).put (Nat.le_refl _) (by simp only [AH.size_push]; omega) _
    have hs3 : G3.size = G2.size + 1 := by rw [hG3]; rfl
    have kt : G3.get G2.size = some [.slice (some ⟨nd, 0, none⟩) a.1.length 1, .slice (some ⟨nx, 0, none⟩) N 1] := by rw [hG3]; (try simp (disch := omega) only [get_pushB, get_putB, pickB_t, pickB_f, eqB_t, eqB_f, ltB_t, AH.size_push, AH.size_put, AH.ro_push, AH.ro_put])
    have hr3 := hE3.ro
    clear hG3
    have hE23 := hE2.trans hE3
    have ga := hE23.get _ _ ga
    have gb := hE23.get _ _ gb
    have g0 := hE23.get _ _ g0
    have hEH := hE.trans hE23
    have hZl : (List.zipWith gateF a.2 b.2).length = N := by rw [List.length_zipWith, la, lb]; omega
    generalize hZ : List.zipWith gateF a.2 b.2 = Z at *
    refine Sat_loop 3000 (fun k H' V => ∃ (i : Nat) (x y : Value), i ≤ N ∧ k = N - i ∧ Fr nx G3 H' ∧ OwnI G1' H' (.slice (some ⟨nx, 0, none⟩) N 1) (Z.take i ++ List.replicate (N - i) 0) ∧ V = [.agg #[.slice pa a.1.length ca, .slice qa a.2.length da], .agg #[.slice pb b.1.length cb, .slice qb b.2.length db], .pointer (some ⟨H.size, 0, none⟩), .pointer (some ⟨H.size + 1, 0, none⟩), .pointer (some ⟨H.size + 1 + 1, 0, none⟩), .int .i64 0, .pointer (some ⟨G2.size, 0, none⟩), x, y, .slice qa a.2.length da, .int .i64 a.2.length, .int .i64 i]) N ⟨0, _, _, by omega, by omega, Fr.refl _ _, by simpa using hox.ext hE3, rfl⟩ ?_
    rintro k H' V ⟨i, x, y, hi, rfl, hF, ho, rfl⟩ ih
    have ja := hF.get _ _ (by omega) ga
    have jb := hF.get _ _ (by omega) gb
    have j0 := hF.get _ _ (by omega) g0
    have jt := hF.get _ _ (by omega) kt
    have hrF := hF.ro
    have hsF := hF.size
    have hEF := hF.ext hEH (by omega)
    have hax' := Ints.mono hEF hax
    have hbx' := Ints.mono hEF hbx
    have hlen : (Z.take i ++ List.replicate (N - i) (0 : Int)).length = N := by simp; omega
    simp (disch := omega) only [go_sem, Nat.reduceEqDiff, Nat.reduceAdd, ↓reduceIte, get_pushB, get_putB, pickB_t, pickB_f, eqB_t, eqB_f, ltB_t, leB_t, AH.size_push, AH.size_put, AH.ro_push, AH.ro_put]
    refine Split.mk (fun h1 => ?_) (fun h1 => ?_)
    · have hzi : gateF (gi a.2 i) (gi b.2 i) = Z[i]'(by omega) := by
        subst hZ
        rw [List.getElem_zipWith, gi_eq (by omega), gi_eq (by omega)]
      simp (disch := omega) only [go_sem, Nat.reduceEqDiff, Nat.reduceAdd, ↓reduceIte, get_pushB, get_putB, pickB_t, pickB_f, eqB_t, eqB_f, ltB_t, leB_t, AH.size_push, AH.size_put, AH.ro_push, AH.ro_put, ixI hax', ldI hax']
      refine Split.mk (fun h2 => ?_) (fun h2 => ?_)
      · rw [show gateF (gi a.2 i) (gi b.2 i) = gi b.2 i by simp only [gateF]; rw [if_pos (by omega)]] at hzi
        obtain ⟨hst, ho2, hb1, hb2⟩ := ho.set i (Z[i]'(by omega)) (by omega)
        simp (disch := omega) only [go_sem, Nat.reduceEqDiff, Nat.reduceAdd, ↓reduceIte, get_pushB, get_putB, pickB_t, pickB_f, eqB_t, eqB_f, ltB_t, leB_t, AH.size_push, AH.size_put, AH.ro_push, AH.ro_put, jb, jt, ixI hbx', ldI hbx', ixI ho.ints, hzi, hst]
        refine ih _ _ _ ?_ ⟨i + 1, .int .i64 i, _, ?_, rfl, hF.trans (Fr.put nx _ hb1 _), ?_, rfl⟩
        · omega
        · omega
        · have := take_step Z i (by omega)
          simp only [hZl] at this
          rw [← this]; exact ho2
      · rw [show gateF (gi a.2 i) (gi b.2 i) = 0 by simp only [gateF]; rw [if_neg (by omega)]] at hzi
        simp (disch := omega) only [go_sem, Nat.reduceEqDiff, Nat.reduceAdd, ↓reduceIte, get_pushB, get_putB, pickB_t, pickB_f, eqB_t, eqB_f, ltB_t, leB_t, AH.size_push, AH.size_put, AH.ro_push, AH.ro_put]
        refine ih _ _ _ ?_ ⟨i + 1, .int .i64 i, _, ?_, rfl, hF, ?_, rfl⟩
        · omega
        · omega
        · have := take_zero Z i (by omega) hzi.symm
          simp only [hZl] at this
          rw [← this]; exact ho
    · have hiN : i = N := by omega
      subst hiN
      have hod2 : OwnI G1' H' (.slice (some ⟨nd, 0, none⟩) a.1.length 1) a.1 := Own.fr (hod.ext hE3) hF (fun a n k e => by cases e; exact hne)
      have ho3 : OwnI G1' H' (.slice (some ⟨nx, 0, none⟩) i 1) Z := by
        have := ho
        rw [List.take_of_length_le (by omega), Nat.sub_self] at this
        simpa using this
      have hT : OwnTD G1' H' (.agg #[.slice (some ⟨nd, 0, none⟩) a.1.length 1, .slice (some ⟨nx, 0, none⟩) i 1]) (a.1, Z) := ⟨_, _, rfl, hod2, ho3, fun a n k e b m j e2 => by cases e; cases e2; exact fun e => hne e.symm⟩
      simp (disch := omega) only [go_sem, Nat.reduceEqDiff, Nat.reduceAdd, ↓reduceIte, get_pushB, get_putB, pickB_t, pickB_f, eqB_t, eqB_f, ltB_t, leB_t, AH.size_push, AH.size_put, AH.ro_push, AH.ro_put, j0, jt]
      exact ⟨_, rfl, hT.out hE h0 (by omega) _, hEF.put (by omega) (by omega) _⟩
  · simp only [if_neg e]
    have e' : decide (a.1 = b.1) = false := by simp [e]
    simp (disch := omega) only [go_sem, Nat.reduceEqDiff, Nat.reduceAdd, ↓reduceIte, get_pushB, get_putB, pickB_t, pickB_f, eqB_t, eqB_f, ltB_t, leB_t, AH.size_push, AH.size_put, AH.ro_push, AH.ro_put, e']
    simp (disch := omega) only [go_sem, Nat.reduceEqDiff, Nat.reduceAdd, ↓reduceIte, get_pushB, get_putB, pickB_t, pickB_f, eqB_t, eqB_f, ltB_t, leB_t, AH.size_push, AH.size_put, AH.ro_push, AH.ro_put, abT0, g0]
    exact ⟨_, rfl, OwnTD.none _ _, Ext.put hE (by omega) (by omega) _⟩
theorem Relu_ok (H : AH) (h0 : H.ro ≤ H.size) (a : Ten) (va : Value) (ha : TenV H va a) (ta : isT a = true) :
    Runs tb 76 [va] H (DoPost H (a.1, a.2.map fun x => gateF x x) 0) := by
  obtain ⟨ad, ax, rfl, had, hax⟩ := id ha
  obtain ⟨pa, ca, rfl⟩ := had.inv
  obtain ⟨qa, da, rfl⟩ := hax.inv
  refine Runs_fn (fn := Try.f76) [.cell 2 32, .tmp 3] [0, 1, 2, 3] [] 3000 (by kernel_rfl) rfl (by kernel_rfl) (by kernel_rfl) rfl ?_; simp only [pad, argAt]
  simp (disch := omega) only [go_sem, Nat.reduceEqDiff, Nat.reduceAdd, ↓reduceIte, get_pushB, get_putB, pickB_t, pickB_f, eqB_t, eqB_f, ltB_t, leB_t, AH.size_push, AH.size_put, AH.ro_push, AH.ro_put, Int.reduceEq, decide_true, decide_false]
  refine callW_gen ?_
  intro G hG
  have hE : Ext H G := by rw [hG]; exact (Ext.push _ _).pushed _
  have hr := hE.ro
  have hs := hE.size
  have hsz : G.size = H.size + 2 := by rw [hG]; rfl
  have g0 : G.get (H.size + 1) = some [.slice none 0 0, .slice none 0 0] := by rw [hG]; (try simp (disch := omega) only [get_pushB, get_putB, pickB_t, pickB_f, eqB_t, eqB_f, ltB_t, AH.size_push, AH.size_put, AH.ro_push, AH.ro_put])
  clear hG
  refine callW_of (Step_ok G (by omega) a a _ _ (TenV.mono hE ha) (TenV.mono hE ha) ta ta) ?_
  simp only [if_true, zipWith_self]
  rintro r G4 ⟨u, rfl, hot, hE4⟩
  obtain ⟨vu, wu, rfl, hu1, hu2, _⟩ := id hot
  obtain ⟨pu, cu, rfl⟩ := hu1.ints.inv
  obtain ⟨pw, cw, rfl⟩ := hu2.ints.inv
  have q0 := hE4.get _ _ g0
  have hr4 := hE4.ro
  have hs4 := hE4.size
  simp (disch := omega) only [go_sem, Nat.reduceEqDiff, Nat.reduceAdd, ↓reduceIte, get_pushB, get_putB, pickB_t, pickB_f, eqB_t, eqB_f, ltB_t, leB_t, AH.size_push, AH.size_put, AH.ro_push, AH.ro_put, q0]
  exact ⟨_, rfl, hot.out hE h0 (by omega) _, (hE.trans hE4).put (by omega) (by omega) _⟩
theorem RefGate_ok (H : AH) (h0 : H.ro ≤ H.size) (a b : Ten) (va vb : Value) (ha : TenV H va a) (hb : TenV H vb b) (hl : b.2.length = a.2.length) (hbd : b.1.length ≤ 1000000000000 ∧ b.2.length ≤ 1000000000000) (hn : b.2 ≠ []) :
    Runs tb 95 [va, vb] H (fun r H' => OwnTD H H' r (b.1, List.zipWith gateF a.2 b.2) ∧ Ext H H') := by
  obtain ⟨ad, ax, rfl, had, hax⟩ := id ha
  obtain ⟨bd, bx, rfl, hbd2, hbx⟩ := id hb
  obtain ⟨pa, ca, rfl⟩ := had.inv
  obtain ⟨pb, cb, rfl⟩ := hbd2.inv
  obtain ⟨qa, da, rfl⟩ := hax.inv
  obtain ⟨qb, db, rfl⟩ := hbx.inv
  refine Runs_fn (fn := Try.f95) [.cell 4 32] [0, 1, 2, 3, 4, 5, 6] [] 3000 (by kernel_rfl) rfl (by kernel_rfl) (by kernel_rfl) rfl ?_; simp only [pad, argAt]
  simp (disch := omega) only [go_sem, Nat.reduceEqDiff, Nat.reduceAdd, ↓reduceIte, get_pushB, get_putB, pickB_t, pickB_f, eqB_t, eqB_f, ltB_t, leB_t, AH.size_push, AH.size_put, AH.ro_push, AH.ro_put]
  refine callW_gen ?_
  intro G hG
  have hE : Ext H G := by rw [hG]; exact ((Ext.push _ _).pushed _).pushed _
  have hr := hE.ro
  have hs := hE.size
  have ga : G.get H.size = some [.slice pa a.1.length ca, .slice qa a.2.length da] := by rw [hG]; (try simp (disch := omega) only [get_pushB, get_putB, pickB_t, pickB_f, eqB_t, eqB_f, ltB_t, AH.size_push, AH.size_put, AH.ro_push, AH.ro_put])
  have gb : G.get (H.size + 1) = some [.slice pb b.1.length cb, .slice qb b.2.length db] := by rw [hG]; (try simp (disch := omega) only [get_pushB, get_putB, pickB_t, pickB_f, eqB_t, eqB_f, ltB_t, AH.size_push, AH.size_put, AH.ro_push, AH.ro_put])
  have g0 : G.get (H.size + 1 + 1) = some [.slice none 0 0, .slice none 0 0] := by rw [hG]; (try simp (disch := omega) only [get_pushB, get_putB, pickB_t, pickB_f, eqB_t, eqB_f, ltB_t, AH.size_push, AH.size_put, AH.ro_push, AH.ro_put])
  have hsz : G.size = H.size + 3 := by rw [hG]; rfl
  clear hG
  refine callW_of (CopyTensorD_ok G (by omega) b _ (TenV.mono hE hb) hbd) ?_
  rintro r G2 ⟨⟨vd, vx, rfl, hod, hox, hne⟩, hE2⟩
  obtain ⟨pd, cd, rfl⟩ := hod.ints.inv
  obtain ⟨nx, rfl⟩ := hox.block hn
  have hr2 := hE2.ro
  have hs2 := hE2.size
  have hbx2 := Own.blk hox _ _ _ rfl
  simp only at hbx2
  simp (disch := omega) only [go_sem, Nat.reduceEqDiff, Nat.reduceAdd, ↓reduceIte, get_pushB, get_putB, pickB_t, pickB_f, eqB_t, eqB_f, ltB_t, leB_t, AH.size_push, AH.size_put, AH.ro_push, AH.ro_put]
  refine Sat_gen ?_
  intro G3 hG3
  have hE3 : Ext G2 G3 := by rw [hG3]; exact (Ext.push _ _).put (Nat.le_refl _) (by simp only [AH.size_push]; omega) _
  have hs3 : G3.size = G2.size + 1 := by rw [hG3]; rfl
  have kt : G3.get G2.size = some [.slice pd b.1.length cd, .slice (some ⟨nx, 0, none⟩) b.2.length 1] := by rw [hG3]; (try simp (disch := omega) only [get_pushB, get_putB, pickB_t, pickB_f, eqB_t, eqB_f, ltB_t, AH.size_push, AH.size_put, AH.ro_push, AH.ro_put])
  have hr3 := hE3.ro
  clear hG3
  have hE23 := hE2.trans hE3
  have ga := hE23.get _ _ ga
  have gb := hE23.get _ _ gb
  have g0 := hE23.get _ _ g0
  have hEH := hE.trans hE23
  have hZl : (List.zipWith gateF a.2 b.2).length = a.2.length := by rw [List.length_zipWith, hl]; omega
  generalize hZ : List.zipWith gateF a.2 b.2 = Z at *
  have hbd3 := hbx.bd
  refine Sat_loop 3000 (fun k H' V => ∃ (i : Nat), i ≤ b.2.length ∧ k = b.2.length - i ∧ Fr nx G3 H' ∧ OwnI G H' (.slice (some ⟨nx, 0, none⟩) b.2.length 1) (Z.take i ++ b.2.drop i) ∧ V = [.agg #[.slice pa a.1.length ca, .slice qa a.2.length da], .agg #[.slice pb b.1.length cb, .slice qb b.2.length db], .pointer (some ⟨H.size, 0, none⟩), .pointer (some ⟨H.size + 1, 0, none⟩), .pointer (some ⟨H.size + 1 + 1, 0, none⟩), .pointer (some ⟨G2.size, 0, none⟩), .int .i64 i]) b.2.length ⟨0, by omega, by omega, Fr.refl _ _, by simpa using hox.ext hE3, rfl⟩ ?_
  rintro k H' V ⟨i, hi, rfl, hF, ho, rfl⟩ ih
  have ja := hF.get _ _ (by omega) ga
  have jb := hF.get _ _ (by omega) gb
  have j0 := hF.get _ _ (by omega) g0
  have jt := hF.get _ _ (by omega) kt
  have hrF := hF.ro
  have hsF := hF.size
  have hEF := hF.ext hEH (by omega)
  have hax' := Ints.mono hEF hax
  have hbx' := Ints.mono hEF hbx
  have hlen : (Z.take i ++ b.2.drop i).length = b.2.length := by simp; omega
  simp (disch := omega) only [go_sem, Nat.reduceEqDiff, Nat.reduceAdd, ↓reduceIte, get_pushB, get_putB, pickB_t, pickB_f, eqB_t, eqB_f, ltB_t, leB_t, AH.size_push, AH.size_put, AH.ro_push, AH.ro_put, jt]
  refine Split.mk (fun h1 => ?_) (fun h1 => ?_)
  · have hzi : gateF (gi a.2 i) (gi b.2 i) = Z[i]'(by omega) := by
      subst hZ
      rw [List.getElem_zipWith, gi_eq (by omega), gi_eq (by omega)]
    simp (disch := omega) only [go_sem, Nat.reduceEqDiff, Nat.reduceAdd, ↓reduceIte, get_pushB, get_putB, pickB_t, pickB_f, eqB_t, eqB_f, ltB_t, leB_t, AH.size_push, AH.size_put, AH.ro_push, AH.ro_put, ja, ixI hax', ldI hax']
    refine Split.mk (fun h2 => ?_) (fun h2 => ?_)
    · rw [show gateF (gi a.2 i) (gi b.2 i) = 0 by simp only [gateF]; rw [if_neg (by omega)]] at hzi
      obtain ⟨hst, ho2, hb1, hb2⟩ := ho.set i 0 (by omega)
      simp (disch := omega) only [go_sem, Nat.reduceEqDiff, Nat.reduceAdd, ↓reduceIte, get_pushB, get_putB, pickB_t, pickB_f, eqB_t, eqB_f, ltB_t, leB_t, AH.size_push, AH.size_put, AH.ro_push, AH.ro_put, jt, ixI ho.ints, hst]
      refine ih _ _ _ ?_ ⟨i + 1, ?_, rfl, hF.trans (Fr.put nx _ hb1 _), ?_, rfl⟩
      · omega
      · omega
      · rw [← take_step2 Z b.2 i (by omega) (by omega), ← hzi]; exact ho2
    · rw [show gateF (gi a.2 i) (gi b.2 i) = gi b.2 i by simp only [gateF]; rw [if_pos (by omega)]] at hzi
      simp (disch := omega) only [go_sem, Nat.reduceEqDiff, Nat.reduceAdd, ↓reduceIte, get_pushB, get_putB, pickB_t, pickB_f, eqB_t, eqB_f, ltB_t, leB_t, AH.size_push, AH.size_put, AH.ro_push, AH.ro_put]
      refine ih _ _ _ ?_ ⟨i + 1, ?_, rfl, hF, ?_, rfl⟩
      · omega
      · omega
      · rw [← take_keep Z b.2 i (by omega) (by omega) (by rw [← hzi, gi_eq (by omega)])]; exact ho
  · have hiN : i = b.2.length := by omega
    subst hiN
    have hod2 : OwnI G H' (.slice pd b.1.length cd) b.1 := Own.fr (hod.ext hE3) hF (fun p q r e => fun e2 => hne _ _ _ e _ _ _ rfl e2.symm)
    have ho3 : OwnI G H' (.slice (some ⟨nx, 0, none⟩) b.2.length 1) Z := by
      have := ho
      rw [List.take_of_length_le (by omega), List.drop_of_length_le (by omega)] at this
      simpa [OwnI, hZl] using this
    have hT : OwnTD G H' (.agg #[.slice pd b.1.length cd, .slice (some ⟨nx, 0, none⟩) b.2.length 1]) (b.1, Z) := ⟨_, _, rfl, hod2, ho3, hne⟩
    simp (disch := omega) only [go_sem, Nat.reduceEqDiff, Nat.reduceAdd, ↓reduceIte, get_pushB, get_putB, pickB_t, pickB_f, eqB_t, eqB_f, ltB_t, leB_t, AH.size_push, AH.size_put, AH.ro_push, AH.ro_put, j0, jt]
    exact ⟨hT.out hE h0 (by omega) _, hEF.put (by omega) (by omega) _⟩
theorem dbl16_ok (H : AH) (h0 : H.ro ≤ H.size) (a b : Ten) (va vb : Value) (ha : TenV H va a) (hb : TenV H vb b) (ta : isT a = true) (tb' : isT b = true) (n : Int) :
    Runs tb 38 [.int .i64 16, .int .i64 n, va, vb] H (DoPost H (if a.1 = b.1 then (a.1, List.zipWith gateF a.2 b.2) else ([], [])) (if a.1 = b.1 then 0 else 4)) := by
  obtain ⟨ad, ax, rfl, had, hax⟩ := id ha
  obtain ⟨bd, bx, rfl, hbd, hbx⟩ := id hb
  obtain ⟨pa, ca, rfl⟩ := had.inv
  obtain ⟨pb, cb, rfl⟩ := hbd.inv
  obtain ⟨qa, da, rfl⟩ := hax.inv
  obtain ⟨qb, db, rfl⟩ := hbx.inv
  refine Runs_fn (fn := Try.f38) [.cell 8 32, .tmp 9] [0, 1, 2, 3, 6, 7, 8, 9, 10] [] 3000 (by kernel_rfl) rfl (by kernel_rfl) (by kernel_rfl) rfl ?_; simp only [pad, argAt]
  simp (disch := omega) only [go_sem, Nat.reduceEqDiff, Nat.reduceAdd, ↓reduceIte, get_pushB, get_putB, pickB_t, pickB_f, eqB_t, eqB_f, ltB_t, leB_t, AH.size_push, AH.size_put, AH.ro_push, AH.ro_put, Int.reduceEq, decide_true, decide_false]
  refine callW_gen ?_
  intro G hG
  have hE : Ext H G := by rw [hG]; exact ((Ext.push _ _).pushed _).pushed _
  have hr := hE.ro
  have hs := hE.size
  have hsz : G.size = H.size + 3 := by rw [hG]; rfl
  have g0 : G.get (H.size + 1 + 1) = some [.slice none 0 0, .slice none 0 0] := by rw [hG]; (try simp (disch := omega) only [get_pushB, get_putB, pickB_t, pickB_f, eqB_t, eqB_f, ltB_t, AH.size_push, AH.size_put, AH.ro_push, AH.ro_put])
  clear hG
  refine callW_of (Step_ok G (by omega) a b _ _ (TenV.mono hE ha) (TenV.mono hE hb) ta tb') ?_
  rintro r G4 ⟨u, rfl, hot, hE4⟩
  obtain ⟨vu, wu, rfl, hu1, hu2, _⟩ := id hot
  obtain ⟨pu, cu, rfl⟩ := hu1.ints.inv
  obtain ⟨pw, cw, rfl⟩ := hu2.ints.inv
  have q0 := hE4.get _ _ g0
  have hr4 := hE4.ro
  have hs4 := hE4.size
  simp (disch := omega) only [go_sem, Nat.reduceEqDiff, Nat.reduceAdd, ↓reduceIte, get_pushB, get_putB, pickB_t, pickB_f, eqB_t, eqB_f, ltB_t, leB_t, AH.size_push, AH.size_put, AH.ro_push, AH.ro_put, q0]
  exact ⟨_, rfl, hot.out hE h0 (by omega) _, (hE.trans hE4).put (by omega) (by omega) _⟩
theorem KindOk16 : KindOk 16 (fun n d l => List.zipWith gateF (l.getD 0 ([], [])).2 (l.getD 1 ([], [])).2) where
  fill h := by omega
  one n d l h hl := by have := (doOk_form h).2.2.2.2; simp [manyP] at this; omega
  two n d l h hl G u w h0 hu hw := by
    have hA := (doOk_form h).2.2.1
    have := dbl16_ok G h0 _ _ u w hu hw (all_getD hA (by omega)) (all_getD hA (by omega)) n
    have e : doE (fun n d l => List.zipWith gateF (l.getD 0 ([], [])).2 (l.getD 1 ([], [])).2) 16 n d l = (if (l.getD 0 ([], [])).1 = (l.getD 1 ([], [])).1 then (((l.getD 0 ([], [])).1, List.zipWith gateF (l.getD 0 ([], [])).2 (l.getD 1 ([], [])).2), 0) else (([], []), 4)) := by
      simp only [doE, h, if_true, dimsP, map_getD]
      simp only [Int.reduceEq, or_self, or_false, or_true, false_or, if_true, if_false]
      by_cases hC : (l.getD 0 ([], [])).1 = (l.getD 1 ([], [])).1
      · simp only [if_pos hC]
      · simp only [if_neg hC]
    rw [e]
    split
    · rename_i hc; simp only [if_pos hc] at this; exact this
    · rename_i hc; simp only [if_neg hc] at this; exact this
  ref n d l x h hx G vd vl h0 hd hl := by
    have hA := (doOk_form h).2.2.1
    have hm := (doOk_form h).2.2.2.2
    have hlen : l.length = 2 := by simp [manyP] at hm; omega
    have hx2 : (l.getD 0 ([], [])).1 = (l.getD 1 ([], [])).1 ∧ x = (l.getD 0 ([], [])).1 := by
      simp only [dimsP, map_getD] at hx
      simp only [Int.reduceEq, or_self, or_false, or_true, false_or, if_true, if_false] at hx
      split at hx
      · rename_i hc; cases hx; exact ⟨hc, rfl⟩
      · cases hx
    obtain ⟨hC, rfl⟩ := hx2
    obtain ⟨pl, cl, rfl⟩ := hl.inv
    have ta := all_getD hA (i := 0) (by omega)
    have tb' := all_getD hA (i := 1) (by omega)
    have hP := Ext.push G [.slice none 0 0, .slice none 0 0]
    have hlP := Tens.mono hP hl
    obtain ⟨u0, hu0, ht0⟩ := ldT0 hl (by omega)
    have hu0 := fun (H' : AH) (hE' : Ext G H') => aload_ext hE' hu0
    obtain ⟨u1, hu1, ht1⟩ := ldT1 hl (by omega)
    have hu1 := fun (H' : AH) (hE' : Ext G H') => aload_ext hE' hu1
    refine Runs_fn (fn := Try.f48) [.cell 8 32] [0, 1, 2, 3, 8, 9] [(19, [(5, 1)])] 3000 (by kernel_rfl) rfl (by kernel_rfl) (by kernel_rfl) rfl ?_; simp only [pad, argAt]
    simp (disch := omega) only [go_sem, Nat.reduceEqDiff, Nat.reduceAdd, ↓reduceIte, get_pushB, get_putB, pickB_t, pickB_f, eqB_t, eqB_f, ltB_t, leB_t, AH.size_push, AH.size_put, AH.ro_push, AH.ro_put, Int.reduceEq, decide_true, decide_false, ixT hlP, hu0 _ hP, hu1 _ hP]
    refine callW_gen ?_
    intro G1 hG
    have hE : Ext G G1 := by rw [hG]; exact Ext.push _ _
    have g0 : G1.get G.size = some [.slice none 0 0, .slice none 0 0] := by rw [hG]; (try simp (disch := omega) only [get_pushB, get_putB, pickB_t, pickB_f, eqB_t, eqB_f, ltB_t, AH.size_push, AH.size_put, AH.ro_push, AH.ro_put])
    have hs : G1.size = G.size + 1 := by rw [hG]; rfl
    have hr := hE.ro
    clear hG
    refine callW_of ((by rw [hC]; exact RefGate_ok G1 (by omega) _ _ u0 u1 (TenV.mono hE ht0) (TenV.mono hE ht1) (by rw [(isT_spec ta).2.2, (isT_spec tb').2.2, hC]) (isT_bd tb') (isT_ne tb') : Runs tb 95 [u0, u1] G1 (fun r H' => OwnTD G1 H' r ((l.getD 0 ([], [])).1, List.zipWith gateF (l.getD 0 ([], [])).2 (l.getD 1 ([], [])).2) ∧ Ext G1 H'))) ?_
    rintro r H1 ⟨hot, hE1⟩
    obtain ⟨vu, wu, rfl, hu1, hu2, _⟩ := id hot
    obtain ⟨pu, cu, rfl⟩ := hu1.ints.inv
    obtain ⟨pw, cw, rfl⟩ := hu2.ints.inv
    have q0 := hE1.get _ _ g0
    have hr1 := hE1.ro
    have hs1 := hE1.size
    simp (disch := omega) only [go_sem, Nat.reduceEqDiff, Nat.reduceAdd, ↓reduceIte, get_pushB, get_putB, pickB_t, pickB_f, eqB_t, eqB_f, ltB_t, leB_t, AH.size_push, AH.size_put, AH.ro_push, AH.ro_put, q0]
    exact ⟨hot.out hE h0 (by omega) _, (hE.trans hE1).put (Nat.le_refl _) (by omega) _⟩
theorem sgl14_ok (H : AH) (h0 : H.ro ≤ H.size) (a : Ten) (va : Value) (ha : TenV H va a) (ta : isT a = true) (n : Int) (d : List Int) (vd : Value) (hdd : Ints H vd d) :
    Runs tb 39 [.int .i64 14, .int .i64 n, vd, va] H (DoPost H (a.1, a.2.map fun x => gateF x x) 0) := by
  obtain ⟨ad, ax, rfl, had, hax⟩ := id ha
  obtain ⟨pa, ca, rfl⟩ := had.inv
  obtain ⟨qa, da, rfl⟩ := hax.inv
  refine Runs_fn (fn := Try.f39) [.cell 8 32, .tmp 9] [0, 1, 2, 3, 7, 8, 9, 10] [] 3000 (by kernel_rfl) rfl (by kernel_rfl) (by kernel_rfl) rfl ?_; simp only [pad, argAt]
  simp (disch := omega) only [go_sem, Nat.reduceEqDiff, Nat.reduceAdd, ↓reduceIte, get_pushB, get_putB, pickB_t, pickB_f, eqB_t, eqB_f, ltB_t, leB_t, AH.size_push, AH.size_put, AH.ro_push, AH.ro_put, Int.reduceEq, decide_true, decide_false]
  refine callW_gen ?_
  intro G hG
  have hE : Ext H G := by rw [hG]; exact (Ext.push _ _).pushed _
  have hr := hE.ro
  have hs := hE.size
  have hsz : G.size = H.size + 2 := by rw [hG]; rfl
  have g0 : G.get (H.size + 1) = some [.slice none 0 0, .slice none 0 0] := by rw [hG]; (try simp (disch := omega) only [get_pushB, get_putB, pickB_t, pickB_f, eqB_t, eqB_f, ltB_t, AH.size_push, AH.size_put, AH.ro_push, AH.ro_put])
  clear hG
  refine callW_of (Relu_ok G (by omega) a _ (TenV.mono hE ha) ta) ?_
  rintro r G4 ⟨u, rfl, hot, hE4⟩
  obtain ⟨vu, wu, rfl, hu1, hu2, _⟩ := id hot
  obtain ⟨pu, cu, rfl⟩ := hu1.ints.inv
  obtain ⟨pw, cw, rfl⟩ := hu2.ints.inv
  have q0 := hE4.get _ _ g0
  have hr4 := hE4.ro
  have hs4 := hE4.size
  simp (disch := omega) only [go_sem, Nat.reduceEqDiff, Nat.reduceAdd, ↓reduceIte, get_pushB, get_putB, pickB_t, pickB_f, eqB_t, eqB_f, ltB_t, leB_t, AH.size_push, AH.size_put, AH.ro_push, AH.ro_put, q0]
  exact ⟨_, rfl, hot.out hE h0 (by omega) _, (hE.trans hE4).put (by omega) (by omega) _⟩
theorem KindOk14 : KindOk 14 (fun n d l => (l.getD 0 ([], [])).2.map fun x => gateF x x) where
  fill h := by omega
  two n d l h hl := by have := (doOk_form h).2.2.2.2; simp [manyP] at this; omega
  one n d l h hl G u vd h0 hd hu := by
    have hA := (doOk_form h).2.2.1
    have := sgl14_ok G h0 _ u hu (all_getD hA (by omega)) n d vd hd
    have e : doE (fun n d l => (l.getD 0 ([], [])).2.map fun x => gateF x x) 14 n d l = (((l.getD 0 ([], [])).1, (l.getD 0 ([], [])).2.map fun x => gateF x x), 0) := by
      simp only [doE, h, if_true, dimsP, map_getD]
      simp only [Int.reduceEq, or_self, or_false, or_true, false_or, if_true, if_false]
    rw [e]
    exact this
  ref n d l x h hx G vd vl h0 hd hl := by
    have hA := (doOk_form h).2.2.1
    have hm := (doOk_form h).2.2.2.2
    have hlen : l.length = 1 := by simp [manyP] at hm; omega
    have hx2 : x = (l.getD 0 ([], [])).1 := by
      simp only [dimsP, map_getD] at hx
      simp only [Int.reduceEq, or_self, or_false, or_true, false_or, if_true, if_false] at hx
      cases hx; rfl
    subst hx2
    obtain ⟨pl, cl, rfl⟩ := hl.inv
    have ta := all_getD hA (i := 0) (by omega)
    have hP := Ext.push G [.slice none 0 0, .slice none 0 0]
    have hlP := Tens.mono hP hl
    obtain ⟨u0, hu0, ht0⟩ := ldT0 hl (by omega)
    have hu0 := fun (H' : AH) (hE' : Ext G H') => aload_ext hE' hu0
    refine Runs_fn (fn := Try.f48) [.cell 8 32] [0, 1, 2, 3, 8, 9] [(19, [(5, 1)])] 3000 (by kernel_rfl) rfl (by kernel_rfl) (by kernel_rfl) rfl ?_; simp only [pad, argAt]
    simp (disch := omega) only [go_sem, Nat.reduceEqDiff, Nat.reduceAdd, ↓reduceIte, get_pushB, get_putB, pickB_t, pickB_f, eqB_t, eqB_f, ltB_t, leB_t, AH.size_push, AH.size_put, AH.ro_push, AH.ro_put, Int.reduceEq, decide_true, decide_false, ixT hlP, hu0 _ hP]
    refine callW_gen ?_
    intro G1 hG
    have hE : Ext G G1 := by rw [hG]; exact Ext.push _ _
    have g0 : G1.get G.size = some [.slice none 0 0, .slice none 0 0] := by rw [hG]; (try simp (disch := omega) only [get_pushB, get_putB, pickB_t, pickB_f, eqB_t, eqB_f, ltB_t, AH.size_push, AH.size_put, AH.ro_push, AH.ro_put])
    have hs : G1.size = G.size + 1 := by rw [hG]; rfl
    have hr := hE.ro
    clear hG
    refine callW_of ((by have := RefGate_ok G1 (by omega) _ _ u0 u0 (TenV.mono hE ht0) (TenV.mono hE ht0) rfl (isT_bd ta) (isT_ne ta); rw [zipWith_self] at this; exact this : Runs tb 95 [u0, u0] G1 (fun r H' => OwnTD G1 H' r ((l.getD 0 ([], [])).1, (l.getD 0 ([], [])).2.map fun x => gateF x x) ∧ Ext G1 H'))) ?_
    rintro r H1 ⟨hot, hE1⟩
    obtain ⟨vu, wu, rfl, hu1, hu2, _⟩ := id hot
    obtain ⟨pu, cu, rfl⟩ := hu1.ints.inv
    obtain ⟨pw, cw, rfl⟩ := hu2.ints.inv
    have q0 := hE1.get _ _ g0
    have hr1 := hE1.ro
    have hs1 := hE1.size
    simp (disch := omega) only [go_sem, Nat.reduceEqDiff, Nat.reduceAdd, ↓reduceIte, get_pushB, get_putB, pickB_t, pickB_f, eqB_t, eqB_f, ltB_t, leB_t, AH.size_push, AH.size_put, AH.ro_push, AH.ro_put, q0]
    exact ⟨hot.out hE h0 (by omega) _, (hE.trans hE1).put (Nat.le_refl _) (by omega) _⟩
end Go.Proofs.K
