/- Number by number. -/
import Derived.Test.YtcbmnjhdeklkmaaP4
set_option linter.unusedVariables false
set_option maxRecDepth 8000
set_option maxHeartbeats 4000000
set_option linter.unusedSimpArgs false
namespace Go.Proofs.K
open Go Go.Ab
theorem isT_spec {t : Ten} (h : isT t = true) : mayP t.1 = true ∧ (t.2.length : Int) = prodL t.1 ∧ t.2.length = (prodL t.1).toNat := by
  simp only [isT, Bool.and_eq_true, decide_eq_true_eq] at h
  exact ⟨h.1, h.2, by omega⟩
theorem take_step (Z : List Int) (i : Nat) (h : i < Z.length) : (Z.take i ++ List.replicate (Z.length - i) 0).set i Z[i] = Z.take (i + 1) ++ List.replicate (Z.length - (i + 1)) 0 := by
  rw [List.set_append_right _ _ (by simp; omega)]
  obtain ⟨k, hk⟩ : ∃ k, Z.length - i = k + 1 := ⟨Z.length - i - 1, by omega⟩
  rw [hk, show Z.length - (i + 1) = k by omega]
  have e : i - (Z.take i).length = 0 := by simp; omega
  rw [e, List.replicate_succ, List.set_cons_zero, ← List.take_append_getElem h, List.append_assoc]
  rfl
theorem pair_ok (H : AH) (h0 : H.ro ≤ H.size) (a b : Ten) (va vb : Value) (ha : TenV H va a) (hb : TenV H vb b) (ta : isT a = true) (tb' : isT b = true) : Runs tb 116 [va, vb] H (fun r H' => r = .int .i64 (if a.1 = b.1 then 0 else 4) ∧ Ext H H') := by
  obtain ⟨ad, ax, rfl, had, hax⟩ := ha
  obtain ⟨bd, bx, rfl, hbd, hbx⟩ := hb
  obtain ⟨pa, ca, rfl⟩ := had.inv
  obtain ⟨pb, cb, rfl⟩ := hbd.inv
  refine Runs_fn (fn := Try.f116) [.tmp 4] [0, 1, 2, 3, 4] [] 3000 (by kernel_rfl) rfl (by kernel_rfl) (by kernel_rfl) rfl ?_; simp only [pad, argAt]
  simp (disch := omega) only [go_sem, Nat.reduceEqDiff, Nat.reduceAdd, ↓reduceIte, get_pushB, get_putB, pickB_t, pickB_f, eqB_t, eqB_f, ltB_t, leB_t, AH.size_push, AH.size_put, AH.ro_push, AH.ro_put, bslice_2' stT (.slice pa a.1.length ca) ax (.slice pb b.1.length cb) bx]
  refine callW_gen ?_
  intro G hG
  have hE : Ext H G := by rw [hG]; exact ((Ext.push _ _).pushed _).pushed _
  have hr := hE.ro
  have hs := hE.size
  have ga : G.get H.size = some [.slice pa a.1.length ca, ax] := by rw [hG]; (try simp (disch := omega) only [get_pushB, get_putB, pickB_t, pickB_f, eqB_t, eqB_f, ltB_t, AH.size_push, AH.size_put, AH.ro_push, AH.ro_put])
  have gb : G.get (H.size + 1) = some [.slice pb b.1.length cb, bx] := by rw [hG]; (try simp (disch := omega) only [get_pushB, get_putB, pickB_t, pickB_f, eqB_t, eqB_f, ltB_t, AH.size_push, AH.size_put, AH.ro_push, AH.ro_put])
  have gl : G.get (H.size + 1 + 1) = some [.slice pa a.1.length ca, ax, .slice pb b.1.length cb, bx] := by rw [hG]; (try simp (disch := omega) only [get_pushB, get_putB, pickB_t, pickB_f, eqB_t, eqB_f, ltB_t, AH.size_push, AH.size_put, AH.ro_push, AH.ro_put])
  clear hG
  have hl : Tens G (.slice (some ⟨H.size + 1 + 1, 0, none⟩) 2 2) [a, b] := by
    refine Own.sl (H0 := H) (Own.mk (H.size + 1 + 1) 2 _ (by omega) h0 hr gl rfl (by omega)) rfl fun q x hx => ?_
    match q, hx with
    | 0, hx => simp at hx; subst hx; exact ⟨_, _, rfl, rfl, Ints.mono hE had, Ints.mono hE hax⟩
    | 1, hx => simp at hx; subst hx; exact ⟨_, _, rfl, rfl, Ints.mono hE hbd, Ints.mono hE hbx⟩
  refine callW_of (All_ok G [a, b] _ hl) ?_
  rintro r G2 ⟨rfl, hE2⟩
  have g2a := hE2.get _ _ ga
  have g2b := hE2.get _ _ gb
  have hE02 := hE.trans hE2
  have hall : ([a, b] : List Ten).all isT = true := by simp [ta, tb']
  simp (disch := omega) only [go_sem, Nat.reduceEqDiff, Nat.reduceAdd, ↓reduceIte, get_pushB, get_putB, pickB_t, pickB_f, eqB_t, eqB_f, ltB_t, leB_t, AH.size_push, AH.size_put, AH.ro_push, AH.ro_put, hall, g2a, g2b]
  refine callW_of (Equal_ok G2 a.1 b.1 _ _ (Ints.mono hE02 had) (Ints.mono hE02 hbd)) ?_
  rintro r G3 ⟨rfl, rfl⟩
  simp (disch := omega) only [go_sem, Nat.reduceEqDiff, Nat.reduceAdd, ↓reduceIte, get_pushB, get_putB, pickB_t, pickB_f, eqB_t, eqB_f, ltB_t, leB_t, AH.size_push, AH.size_put, AH.ro_push, AH.ro_put]
  by_cases e : a.1 = b.1
  · simp (disch := omega) only [go_sem, Nat.reduceEqDiff, Nat.reduceAdd, ↓reduceIte, get_pushB, get_putB, pickB_t, pickB_f, eqB_t, eqB_f, ltB_t, leB_t, AH.size_push, AH.size_put, AH.ro_push, AH.ro_put, e, decide_true]
    refine Split.mk (fun h => absurd h (by simp)) (fun _ => ?_)
    simp (disch := omega) only [go_sem, Nat.reduceEqDiff, Nat.reduceAdd, ↓reduceIte, get_pushB, get_putB, pickB_t, pickB_f, eqB_t, eqB_f, ltB_t, leB_t, AH.size_push, AH.size_put, AH.ro_push, AH.ro_put]
    exact hE02
  · simp (disch := omega) only [go_sem, Nat.reduceEqDiff, Nat.reduceAdd, ↓reduceIte, get_pushB, get_putB, pickB_t, pickB_f, eqB_t, eqB_f, ltB_t, leB_t, AH.size_push, AH.size_put, AH.ro_push, AH.ro_put, e, decide_false]
    refine Split.mk (fun _ => ?_) (fun h => absurd (by simp) h)
    simp (disch := omega) only [go_sem, Nat.reduceEqDiff, Nat.reduceAdd, ↓reduceIte, get_pushB, get_putB, pickB_t, pickB_f, eqB_t, eqB_f, ltB_t, leB_t, AH.size_push, AH.size_put, AH.ro_push, AH.ro_put]
    exact hE02
theorem two_ok (H : AH) (h0 : H.ro ≤ H.size) (a b : Ten) (va vb : Value) (ha : TenV H va a) (hb : TenV H vb b) (ta : isT a = true) (tb' : isT b = true) (g : FuncId) (caps : Array Value) (f : Int → Int → Int)
    (hf : ∀ G x y, Ext H G → Runs tb g (.int .i64 x :: .int .i64 y :: caps.toList) G (fun r G' => r = .int .i64 (f x y) ∧ G' = G)) :
    Runs tb 102 [va, vb, .func (.func g) #[] caps] H (DoPost H (if a.1 = b.1 then (a.1, List.zipWith f a.2 b.2) else ([], [])) (if a.1 = b.1 then 0 else 4)) := by
  obtain ⟨ad, ax, rfl, had, hax⟩ := id ha
  obtain ⟨bd, bx, rfl, hbd, hbx⟩ := id hb
  obtain ⟨ma, _, la⟩ := isT_spec ta
  obtain ⟨mb, _, lb⟩ := isT_spec tb'
  have hp := prodL_pos ma
  obtain ⟨pa, ca, rfl⟩ := had.inv
  obtain ⟨pb, cb, rfl⟩ := hbd.inv
  obtain ⟨qa, da, rfl⟩ := hax.inv
  obtain ⟨qb, db, rfl⟩ := hbx.inv
  refine Runs_fn (fn := Try.f102) [.cell 6 32, .tmp 7] [0, 1, 2, 3, 4, 6, 7, 8, 9, 10, 23, 24] [(8, [(1, 14)])] 3000 (by kernel_rfl) rfl (by kernel_rfl) (by kernel_rfl) rfl ?_; simp only [pad, argAt]
  simp (disch := omega) only [go_sem, Nat.reduceEqDiff, Nat.reduceAdd, ↓reduceIte, get_pushB, get_putB, pickB_t, pickB_f, eqB_t, eqB_f, ltB_t, leB_t, AH.size_push, AH.size_put, AH.ro_push, AH.ro_put]
  refine callW_gen ?_
  intro G hG
  have hE : Ext H G := by rw [hG]; exact ((Ext.push _ _).pushed _).pushed _
  have hr := hE.ro
  have hs := hE.size
  have ga : G.get H.size = some [.slice pa a.1.length ca, .slice qa a.2.length da] := by rw [hG]; (try simp (disch := omega) only [get_pushB, get_putB, pickB_t, pickB_f, eqB_t, eqB_f, ltB_t, AH.size_push, AH.size_put, AH.ro_push, AH.ro_put])
  have gb : G.get (H.size + 1) = some [.slice pb b.1.length cb, .slice qb b.2.length db] := by rw [hG]; (try simp (disch := omega) only [get_pushB, get_putB, pickB_t, pickB_f, eqB_t, eqB_f, ltB_t, AH.size_push, AH.size_put, AH.ro_push, AH.ro_put])
  have g0 : G.get (H.size + 1 + 1) = some [.slice none 0 0, .slice none 0 0] := by rw [hG]; (try simp (disch := omega) only [get_pushB, get_putB, pickB_t, pickB_f, eqB_t, eqB_f, ltB_t, AH.size_push, AH.size_put, AH.ro_push, AH.ro_put])
  have hsz : G.size = H.size + 3 := by rw [hG]; rfl
  clear hG
  refine callW_of (pair_ok G (by omega) a b _ _ (TenV.mono hE ha) (TenV.mono hE hb) ta tb') ?_
  rintro r G1 ⟨rfl, hE1⟩
  have hr1 := hE1.ro
  have hs1 := hE1.size
  have ga := hE1.get _ _ ga
  have gb := hE1.get _ _ gb
  have g0 := hE1.get _ _ g0
  have hE := hE.trans hE1
  by_cases e : a.1 = b.1
  · simp only [if_pos e]
    simp (disch := omega) only [go_sem, Nat.reduceEqDiff, Nat.reduceAdd, ↓reduceIte, get_pushB, get_putB, pickB_t, pickB_f, eqB_t, eqB_f, ltB_t, leB_t, AH.size_push, AH.size_put, AH.ro_push, AH.ro_put, decide_true, decide_false, not_true_eq_false, ne_eq, Int.reduceEq, not_false_eq_true]
    simp (disch := omega) only [go_sem, Nat.reduceEqDiff, Nat.reduceAdd, ↓reduceIte, get_pushB, get_putB, pickB_t, pickB_f, eqB_t, eqB_f, ltB_t, leB_t, AH.size_push, AH.size_put, AH.ro_push, AH.ro_put, ga]
    refine callW_of (New_ok G1 (by omega) a.1 _ (Ints.mono hE had) ma) ?_
    rintro r G2 ⟨⟨nd, nx, rfl, hod, hox, hne⟩, hE2⟩
    have hr2 := hE2.ro
    have hs2 := hE2.size
    have hbd2 := Own.blk hod _ _ _ rfl
    have hbx2 := Own.blk hox _ _ _ rfl
    simp only at hbd2 hbx2
    simp (disch := omega) only [go_sem, Nat.reduceEqDiff, Nat.reduceAdd, ↓reduceIte, get_pushB, get_putB, pickB_t, pickB_f, eqB_t, eqB_f, ltB_t, leB_t, AH.size_push, AH.size_put, AH.ro_push, AH.ro_put]
    generalize hN : (prodL a.1).toNat = N at *
    simp only [List.length_replicate] at hod hox ⊢
    have lb : b.2.length = N := by rw [lb, ← e, hN]
    refine Sat_gen ?_
    intro G3 hG3
    have hE3 : Ext G2 G3 := by rw [hG3]; exact (Ext.push _ _).put (Nat.le_refl _) (by simp only [AH.size_push]; omega) _
    have hs3 : G3.size = G2.size + 1 := by rw [hG3]; rfl
    have kt : G3.get G2.size = some [.slice (some ⟨nd, 0, none⟩) a.1.length 1, .slice (some ⟨nx, 0, none⟩) N 1] := by rw [hG3]; (try simp (disch := omega) only [get_pushB, get_putB, pickB_t, pickB_f, eqB_t, eqB_f, ltB_t, AH.size_push, AH.size_put, AH.ro_push, AH.ro_put])
    have hr3 := hE3.ro
    clear hG3
    have hE23 := hE2.trans hE3
    have ga := hE23.get _ _ ga
    have gb := hE23.get _ _ gb
    have g0 := hE23.get _ _ g0
    have hEH := hE.trans hE23
    have hZl : (List.zipWith f a.2 b.2).length = N := by rw [List.length_zipWith, la, lb]; omega
    generalize hZ : List.zipWith f a.2 b.2 = Z at *
    refine Sat_loop 3000 (fun k H' V => ∃ (i : Nat) (x : Value), i ≤ N ∧ k = N - i ∧ Fr nx G3 H' ∧ OwnI G1 H' (.slice (some ⟨nx, 0, none⟩) N 1) (Z.take i ++ List.replicate (N - i) 0) ∧ V = [.agg #[.slice pa a.1.length ca, .slice qa a.2.length da], .agg #[.slice pb b.1.length cb, .slice qb b.2.length db], .func (.func g) #[] caps, .pointer (some ⟨H.size, 0, none⟩), .pointer (some ⟨H.size + 1, 0, none⟩), .pointer (some ⟨H.size + 1 + 1, 0, none⟩), .int .i64 0, .int .i64 0, .pointer (some ⟨G2.size, 0, none⟩), x, .int .i64 N, .int .i64 i]) N ⟨0, _, by omega, by omega, Fr.refl _ _, by simpa using hox.ext hE3, rfl⟩ ?_
    rintro k H' V ⟨i, x, hi, rfl, hF, ho, rfl⟩ ih
    have ja := hF.get _ _ (by omega) ga
    have jb := hF.get _ _ (by omega) gb
    have j0 := hF.get _ _ (by omega) g0
    have jt := hF.get _ _ (by omega) kt
    have hrF := hF.ro
    have hsF := hF.size
    have hEF := hF.ext hEH (by omega)
    have hax' := Ints.mono hEF hax
    have hbx' := Ints.mono hEF hbx
    have hlen : (Z.take i ++ List.replicate (N - i) (0 : Int)).length = N := by simp; omega
    simp (disch := omega) only [go_sem, Nat.reduceEqDiff, Nat.reduceAdd, ↓reduceIte, get_pushB, get_putB, pickB_t, pickB_f, eqB_t, eqB_f, ltB_t, leB_t, AH.size_push, AH.size_put, AH.ro_push, AH.ro_put]
    refine Split.mk (fun h1 => ?_) (fun h1 => ?_)
    · have b1 : aload tb 23 (.pointer (some ⟨G2.size, 1, none⟩)) H'.get = some (.slice (some ⟨nx, 0, none⟩) N 1) := by simp (disch := omega) only [go_sem, Nat.reduceEqDiff, Nat.reduceAdd, ↓reduceIte, get_pushB, get_putB, pickB_t, pickB_f, eqB_t, eqB_f, ltB_t, leB_t, AH.size_push, AH.size_put, AH.ro_push, AH.ro_put, jt]
      simp (disch := omega) only [go_sem, Nat.reduceEqDiff, Nat.reduceAdd, ↓reduceIte, get_pushB, get_putB, pickB_t, pickB_f, eqB_t, eqB_f, ltB_t, leB_t, AH.size_push, AH.size_put, AH.ro_push, AH.ro_put, ja, jb, jt, ixI hax', ixI hbx', ldI hax', ldI hbx']
      refine ⟨⟨Same.of b1 b1 (by simp [seqV, seq1]), trivial⟩, ?_⟩
      refine callW_of (hf H' _ _ hEF) ?_
      rintro r H2 ⟨rfl, rfl⟩
      have hzi : f (gi a.2 i) (gi b.2 i) = Z[i]'(by omega) := by
        subst hZ
        rw [List.getElem_zipWith, gi_eq (by omega), gi_eq (by omega)]
      rw [hzi]
      obtain ⟨hst, ho2, hb1, hb2⟩ := ho.set i (Z[i]'(by omega)) (by omega)
      simp (disch := omega) only [go_sem, Nat.reduceEqDiff, Nat.reduceAdd, ↓reduceIte, get_pushB, get_putB, pickB_t, pickB_f, eqB_t, eqB_f, ltB_t, leB_t, AH.size_push, AH.size_put, AH.ro_push, AH.ro_put, ixI ho.ints, hst]
      refine ⟨⟨Same.of b1 b1 (by simp [seqV, seq1]), trivial⟩, ?_⟩
      refine ih _ _ _ ?_ ⟨i + 1, .int .i64 i, ?_, rfl, hF.trans (Fr.put nx _ hb1 _), ?_, rfl⟩
      · omega
      · omega
      · have := take_step Z i (by omega)
        simp only [hZl] at this
        rw [← this]; exact ho2
    · have hiN : i = N := by omega
      subst hiN
      have hod2 : OwnI G1 H' (.slice (some ⟨nd, 0, none⟩) a.1.length 1) a.1 := Own.fr (hod.ext hE3) hF (fun a n k e => by cases e; exact hne)
      have ho3 : OwnI G1 H' (.slice (some ⟨nx, 0, none⟩) i 1) Z := by
        have := ho
        rw [List.take_of_length_le (by omega), Nat.sub_self] at this
        simpa using this
      have hT : OwnTD G1 H' (.agg #[.slice (some ⟨nd, 0, none⟩) a.1.length 1, .slice (some ⟨nx, 0, none⟩) i 1]) (a.1, Z) := ⟨_, _, rfl, hod2, ho3, fun a n k e b m j e2 => by cases e; cases e2; exact fun e => hne e.symm⟩
      simp (disch := omega) only [go_sem, Nat.reduceEqDiff, Nat.reduceAdd, ↓reduceIte, get_pushB, get_putB, pickB_t, pickB_f, eqB_t, eqB_f, ltB_t, leB_t, AH.size_push, AH.size_put, AH.ro_push, AH.ro_put, j0, jt]
      exact ⟨_, rfl, hT.out hE h0 (by omega) _, hEF.put (by omega) (by omega) _⟩
  · simp only [if_neg e]
    simp (disch := omega) only [go_sem, Nat.reduceEqDiff, Nat.reduceAdd, ↓reduceIte, get_pushB, get_putB, pickB_t, pickB_f, eqB_t, eqB_f, ltB_t, leB_t, AH.size_push, AH.size_put, AH.ro_push, AH.ro_put, decide_true, decide_false, not_true_eq_false, ne_eq, Int.reduceEq, not_false_eq_true, abT0, g0]
    exact ⟨_, rfl, OwnTD.none _ _, Ext.put hE (by omega) (by omega) _⟩
theorem CopyTensorD_ok (H : AH) (h0 : H.ro ≤ H.size) (t : Ten) (v : Value) (h : TenV H v t) (hb : t.1.length ≤ 1000000000000 ∧ t.2.length ≤ 1000000000000) : Runs tb 83 [v] H (fun r H' => OwnTD H H' r t ∧ Ext H H') := by
  obtain ⟨vd, vx, rfl, hd, hx⟩ := h
  refine Runs_fn (fn := Try.f83) [.cell 2 32] [0, 1, 2, 3] [] 3000 (by kernel_rfl) rfl (by kernel_rfl) (by kernel_rfl) rfl ?_; simp only [pad, argAt]
  obtain ⟨pd, cd, rfl⟩ := hd.inv
  obtain ⟨px, cx, rfl⟩ := hx.inv
  simp (disch := omega) only [go_sem, Nat.reduceEqDiff, Nat.reduceAdd, ↓reduceIte, get_pushB, get_putB, pickB_t, pickB_f, eqB_t, eqB_f, ltB_t, leB_t, AH.size_push, AH.size_put, AH.ro_push, AH.ro_put]
  refine callW_gen ?_
  intro G hG
  have hE : Ext H G := by rw [hG]; exact (((Ext.push _ _).pushed _).pushed _).put (by (try simp (disch := omega) only [get_pushB, get_putB, pickB_t, pickB_f, eqB_t, eqB_f, ltB_t, AH.size_push, AH.size_put, AH.ro_push, AH.ro_put]); omega) (by (try simp (disch := omega) only [get_pushB, get_putB, pickB_t, pickB_f, eqB_t, eqB_f, ltB_t, AH.size_push, AH.size_put, AH.ro_push, AH.ro_put]); omega) _
  have hs : G.size = H.size + 3 := by rw [hG]; (try simp (disch := omega) only [get_pushB, get_putB, pickB_t, pickB_f, eqB_t, eqB_f, ltB_t, AH.size_push, AH.size_put, AH.ro_push, AH.ro_put])
  have g0 : G.get H.size = some [.slice pd t.1.length cd, .slice px t.2.length cx] := by rw [hG]; (try simp (disch := omega) only [get_pushB, get_putB, pickB_t, pickB_f, eqB_t, eqB_f, ltB_t, AH.size_push, AH.size_put, AH.ro_push, AH.ro_put])
  have g1 : G.get (H.size + 1) = some [.slice none 0 0, .slice none 0 0] := by rw [hG]; (try simp (disch := omega) only [get_pushB, get_putB, pickB_t, pickB_f, eqB_t, eqB_f, ltB_t, AH.size_push, AH.size_put, AH.ro_push, AH.ro_put])
  have g2 : G.get (H.size + 1 + 1) = some [.slice pd t.1.length cd, .slice px t.2.length cx] := by rw [hG]; (try simp (disch := omega) only [get_pushB, get_putB, pickB_t, pickB_f, eqB_t, eqB_f, ltB_t, AH.size_push, AH.size_put, AH.ro_push, AH.ro_put])
  clear hG
  have hr := hE.ro
  refine callW_of (CopyNumbers_ok G (by omega) _ _ (Ints.mono hE hd) hb.1) ?_
  rintro r G1 ⟨ho1, hE1⟩
  obtain ⟨p1, c1, rfl⟩ := ho1.ints.inv
  have hr1 := hE1.ro
  have hs1 := hE1.size
  simp (disch := omega) only [go_sem, Nat.reduceEqDiff, Nat.reduceAdd, ↓reduceIte, get_pushB, get_putB, pickB_t, pickB_f, eqB_t, eqB_f, ltB_t, leB_t, AH.size_push, AH.size_put, AH.ro_push, AH.ro_put, hE1.get _ _ g0, hE1.get _ _ g1, hE1.get _ _ g2]
  refine callW_gen ?_
  intro G2 hG2
  have hE2 : Ext H G2 := by rw [hG2]; exact (hE.trans hE1).put (by omega) (by omega) _
  have hs2 : G2.size = G1.size := by rw [hG2]; (try simp (disch := omega) only [get_pushB, get_putB, pickB_t, pickB_f, eqB_t, eqB_f, ltB_t, AH.size_push, AH.size_put, AH.ro_push, AH.ro_put])
  have k1 : G2.get (H.size + 1) = some [.slice none 0 0, .slice none 0 0] := by rw [hG2]; (try simp (disch := omega) only [get_pushB, get_putB, pickB_t, pickB_f, eqB_t, eqB_f, ltB_t, AH.size_push, AH.size_put, AH.ro_push, AH.ro_put]); exact hE1.get _ _ g1
  have k2 : G2.get (H.size + 1 + 1) = some [.slice p1 t.1.length c1, .slice px t.2.length cx] := by rw [hG2]; (try simp (disch := omega) only [get_pushB, get_putB, pickB_t, pickB_f, eqB_t, eqB_f, ltB_t, AH.size_push, AH.size_put, AH.ro_push, AH.ro_put])
  have hr2 := hE2.ro
  have ho1' : OwnI G G2 (.slice p1 t.1.length c1) t.1 := by
    rw [hG2]; exact ho1.put (by omega) _
  clear hG2
  refine callW_of (CopyNumbers_ok G2 (by omega) _ _ (Ints.mono hE2 hx) hb.2) ?_
  rintro r G3 ⟨ho2, hE3⟩
  obtain ⟨p2, c2, rfl⟩ := ho2.ints.inv
  have hr3 := hE3.ro
  have hs3 := hE3.size
  simp (disch := omega) only [go_sem, Nat.reduceEqDiff, Nat.reduceAdd, ↓reduceIte, get_pushB, get_putB, pickB_t, pickB_f, eqB_t, eqB_f, ltB_t, leB_t, AH.size_push, AH.size_put, AH.ro_push, AH.ro_put, hE3.get _ _ k1, hE3.get _ _ k2]
  refine ⟨⟨_, _, rfl, ?_, ?_, fun a n k e b m j e2 e3 => ?_⟩, ?_⟩
  · exact OwnI.weak (((ho1'.ext hE3).put (by omega) _).put (by omega) _) hE.size hE.ro h0
  · exact OwnI.weak ((ho2.put (by omega) _).put (by omega) _) hE2.size hE2.ro h0
  · have h1 := (Own.blk ho1 a n k e).2
    have h2 := (Own.blk ho2 b m j e2).1
    omega
  · exact ((hE2.trans hE3).put (by omega) (by omega) _).put (by omega) (by (try simp (disch := omega) only [get_pushB, get_putB, pickB_t, pickB_f, eqB_t, eqB_f, ltB_t, AH.size_push, AH.size_put, AH.ro_push, AH.ro_put]); omega) _

theorem take_step2 (Z A : List Int) (i : Nat) (h : i < Z.length) (hA : A.length = Z.length) : (Z.take i ++ A.drop i).set i Z[i] = Z.take (i + 1) ++ A.drop (i + 1) := by
  rw [List.set_append_right _ _ (by simp; omega)]
  have e : i - (Z.take i).length = 0 := by simp; omega
  have hd : A.drop i = (A[i]'(by omega)) :: A.drop (i + 1) := (List.getElem_cons_drop (by omega)).symm
  rw [e, hd, List.set_cons_zero, ← List.take_append_getElem h, List.append_assoc]
  rfl
theorem Each0_ok (H : AH) (h0 : H.ro ≤ H.size) (a b : Ten) (va vb : Value) (ha : TenV H va a) (hb : TenV H vb b) (hl : b.2.length = a.2.length) (hbd : a.1.length ≤ 1000000000000 ∧ a.2.length ≤ 1000000000000) (hn : a.2 ≠ []) :
    Runs tb 89 [va, vb, .int .i64 0] H (fun r H' => OwnTD H H' r (a.1, List.zipWith (fun x y => IntKind.i64.wrap (x + y)) a.2 b.2) ∧ Ext H H') := by
  obtain ⟨ad, ax, rfl, had, hax⟩ := id ha
  obtain ⟨bd, bx, rfl, hbd2, hbx⟩ := id hb
  obtain ⟨pa, ca, rfl⟩ := had.inv
  obtain ⟨pb, cb, rfl⟩ := hbd2.inv
  obtain ⟨qa, da, rfl⟩ := hax.inv
  obtain ⟨qb, db, rfl⟩ := hbx.inv
  refine Runs_fn (fn := Try.f89) [.cell 6 32] [0, 1, 2, 3, 4, 6, 7, 8, 18] [] 3000 (by kernel_rfl) rfl (by kernel_rfl) (by kernel_rfl) rfl ?_; simp only [pad, argAt]
  simp (disch := omega) only [go_sem, Nat.reduceEqDiff, Nat.reduceAdd, ↓reduceIte, get_pushB, get_putB, pickB_t, pickB_f, eqB_t, eqB_f, ltB_t, leB_t, AH.size_push, AH.size_put, AH.ro_push, AH.ro_put]
  refine callW_gen ?_
  intro G hG
  have hE : Ext H G := by rw [hG]; exact ((Ext.push _ _).pushed _).pushed _
  have hr := hE.ro
  have hs := hE.size
  have ga : G.get H.size = some [.slice pa a.1.length ca, .slice qa a.2.length da] := by rw [hG]; (try simp (disch := omega) only [get_pushB, get_putB, pickB_t, pickB_f, eqB_t, eqB_f, ltB_t, AH.size_push, AH.size_put, AH.ro_push, AH.ro_put])
  have gb : G.get (H.size + 1) = some [.slice pb b.1.length cb, .slice qb b.2.length db] := by rw [hG]; (try simp (disch := omega) only [get_pushB, get_putB, pickB_t, pickB_f, eqB_t, eqB_f, ltB_t, AH.size_push, AH.size_put, AH.ro_push, AH.ro_put])
  have g0 : G.get (H.size + 1 + 1) = some [.slice none 0 0, .slice none 0 0] := by rw [hG]; (try simp (disch := omega) only [get_pushB, get_putB, pickB_t, pickB_f, eqB_t, eqB_f, ltB_t, AH.size_push, AH.size_put, AH.ro_push, AH.ro_put])
  have hsz : G.size = H.size + 3 := by rw [hG]; rfl
  clear hG
  refine callW_of (CopyTensorD_ok G (by omega) a _ (TenV.mono hE ha) hbd) ?_
  rintro r G2 ⟨⟨vd, vx, rfl, hod, hox, hne⟩, hE2⟩
  obtain ⟨pd, cd, rfl⟩ := hod.ints.inv
  obtain ⟨nx, rfl⟩ := hox.block hn
  have hr2 := hE2.ro
  have hs2 := hE2.size
  have hbx2 := Own.blk hox _ _ _ rfl
  simp only at hbx2
  simp (disch := omega) only [go_sem, Nat.reduceEqDiff, Nat.reduceAdd, ↓reduceIte, get_pushB, get_putB, pickB_t, pickB_f, eqB_t, eqB_f, ltB_t, leB_t, AH.size_push, AH.size_put, AH.ro_push, AH.ro_put]
  refine Sat_gen ?_
  intro G3 hG3
  have hE3 : Ext G2 G3 := by rw [hG3]; exact (Ext.push _ _).put (Nat.le_refl _) (by simp only [AH.size_push]; omega) _
  have hs3 : G3.size = G2.size + 1 := by rw [hG3]; rfl
  have kt : G3.get G2.size = some [.slice pd a.1.length cd, .slice (some ⟨nx, 0, none⟩) a.2.length 1] := by rw [hG3]; (try simp (disch := omega) only [get_pushB, get_putB, pickB_t, pickB_f, eqB_t, eqB_f, ltB_t, AH.size_push, AH.size_put, AH.ro_push, AH.ro_put])
  have hr3 := hE3.ro
  clear hG3
  have hE23 := hE2.trans hE3
  have ga := hE23.get _ _ ga
  have gb := hE23.get _ _ gb
  have g0 := hE23.get _ _ g0
  have hEH := hE.trans hE23
  have hZl : (List.zipWith (fun x y => IntKind.i64.wrap (x + y)) a.2 b.2).length = a.2.length := by rw [List.length_zipWith, hl]; omega
  generalize hZ : List.zipWith (fun x y => IntKind.i64.wrap (x + y)) a.2 b.2 = Z at *
  have hbd3 := hax.bd
  refine Sat_loop 3000 (fun k H' V => ∃ (i : Nat) (x : Value), i ≤ a.2.length ∧ k = a.2.length - i ∧ Fr nx G3 H' ∧ OwnI G H' (.slice (some ⟨nx, 0, none⟩) a.2.length 1) (Z.take i ++ a.2.drop i) ∧ V = [.agg #[.slice pa a.1.length ca, .slice qa a.2.length da], .agg #[.slice pb b.1.length cb, .slice qb b.2.length db], .int .i64 0, .pointer (some ⟨H.size, 0, none⟩), .pointer (some ⟨H.size + 1, 0, none⟩), .pointer (some ⟨H.size + 1 + 1, 0, none⟩), .pointer (some ⟨G2.size, 0, none⟩), .int .i64 i, x]) a.2.length ⟨0, _, by omega, by omega, Fr.refl _ _, by simpa using hox.ext hE3, rfl⟩ ?_
  rintro k H' V ⟨i, x, hi, rfl, hF, ho, rfl⟩ ih
  have ja := hF.get _ _ (by omega) ga
  have jb := hF.get _ _ (by omega) gb
  have j0 := hF.get _ _ (by omega) g0
  have jt := hF.get _ _ (by omega) kt
  have hrF := hF.ro
  have hsF := hF.size
  have hEF := hF.ext hEH (by omega)
  have hax' := Ints.mono hEF hax
  have hbx' := Ints.mono hEF hbx
  have hlen : (Z.take i ++ a.2.drop i).length = a.2.length := by simp; omega
  simp (disch := omega) only [go_sem, Nat.reduceEqDiff, Nat.reduceAdd, ↓reduceIte, get_pushB, get_putB, pickB_t, pickB_f, eqB_t, eqB_f, ltB_t, leB_t, AH.size_push, AH.size_put, AH.ro_push, AH.ro_put, jt]
  refine Split.mk (fun h1 => ?_) (fun h1 => ?_)
  · have hzi : (fun x y => IntKind.i64.wrap (x + y)) (gi a.2 i) (gi b.2 i) = Z[i]'(by omega) := by
      subst hZ
      rw [List.getElem_zipWith, gi_eq (by omega), gi_eq (by omega)]
    simp only at hzi
    obtain ⟨hst, ho2, hb1, hb2⟩ := ho.set i (Z[i]'(by omega)) (by omega)
    simp (disch := omega) only [go_sem, Nat.reduceEqDiff, Nat.reduceAdd, ↓reduceIte, get_pushB, get_putB, pickB_t, pickB_f, eqB_t, eqB_f, ltB_t, leB_t, AH.size_push, AH.size_put, AH.ro_push, AH.ro_put, Int.reduceEq, decide_true, decide_false, ja, jb, jt, ixI hax', ixI hbx', ldI hax', ldI hbx', ixI ho.ints]
    simp (disch := omega) only [go_sem, Nat.reduceEqDiff, Nat.reduceAdd, ↓reduceIte, get_pushB, get_putB, pickB_t, pickB_f, eqB_t, eqB_f, ltB_t, leB_t, AH.size_push, AH.size_put, AH.ro_push, AH.ro_put, hzi, hst]
    refine ih _ _ _ ?_ ⟨i + 1, _, ?_, rfl, hF.trans (Fr.put nx _ hb1 _), ?_, rfl⟩
    · omega
    · omega
    · rw [← take_step2 Z a.2 i (by omega) (by omega)]; exact ho2
  · have hiN : i = a.2.length := by omega
    subst hiN
    have hod2 : OwnI G H' (.slice pd a.1.length cd) a.1 := Own.fr (hod.ext hE3) hF (fun p q r e => fun e2 => hne _ _ _ e _ _ _ rfl e2.symm)
    have ho3 : OwnI G H' (.slice (some ⟨nx, 0, none⟩) a.2.length 1) Z := by
      have := ho
      rw [List.take_of_length_le (by omega), List.drop_of_length_le (by omega)] at this
      simpa [OwnI, hZl] using this
    have hT : OwnTD G H' (.agg #[.slice pd a.1.length cd, .slice (some ⟨nx, 0, none⟩) a.2.length 1]) (a.1, Z) := ⟨_, _, rfl, hod2, ho3, hne⟩
    simp (disch := omega) only [go_sem, Nat.reduceEqDiff, Nat.reduceAdd, ↓reduceIte, get_pushB, get_putB, pickB_t, pickB_f, eqB_t, eqB_f, ltB_t, leB_t, AH.size_push, AH.size_put, AH.ro_push, AH.ro_put, j0, jt]
    exact ⟨hT.out hE h0 (by omega) _, hEF.put (by omega) (by omega) _⟩
theorem Each1_ok (H : AH) (h0 : H.ro ≤ H.size) (a b : Ten) (va vb : Value) (ha : TenV H va a) (hb : TenV H vb b) (hl : b.2.length = a.2.length) (hbd : a.1.length ≤ 1000000000000 ∧ a.2.length ≤ 1000000000000) (hn : a.2 ≠ []) :
    Runs tb 89 [va, vb, .int .i64 1] H (fun r H' => OwnTD H H' r (a.1, List.zipWith (fun x y => IntKind.i64.wrap (x - y)) a.2 b.2) ∧ Ext H H') := by
  obtain ⟨ad, ax, rfl, had, hax⟩ := id ha
  obtain ⟨bd, bx, rfl, hbd2, hbx⟩ := id hb
  obtain ⟨pa, ca, rfl⟩ := had.inv
  obtain ⟨pb, cb, rfl⟩ := hbd2.inv
  obtain ⟨qa, da, rfl⟩ := hax.inv
  obtain ⟨qb, db, rfl⟩ := hbx.inv
  refine Runs_fn (fn := Try.f89) [.cell 6 32] [0, 1, 2, 3, 4, 6, 7, 8, 18] [] 3000 (by kernel_rfl) rfl (by kernel_rfl) (by kernel_rfl) rfl ?_; simp only [pad, argAt]
  simp (disch := omega) only [go_sem, Nat.reduceEqDiff, Nat.reduceAdd, ↓reduceIte, get_pushB, get_putB, pickB_t, pickB_f, eqB_t, eqB_f, ltB_t, leB_t, AH.size_push, AH.size_put, AH.ro_push, AH.ro_put]
  refine callW_gen ?_
  intro G hG
  have hE : Ext H G := by rw [hG]; exact ((Ext.push _ _).pushed _).pushed _
  have hr := hE.ro
  have hs := hE.size
  have ga : G.get H.size = some [.slice pa a.1.length ca, .slice qa a.2.length da] := by rw [hG]; (try simp (disch := omega) only [get_pushB, get_putB, pickB_t, pickB_f, eqB_t, eqB_f, ltB_t, AH.size_push, AH.size_put, AH.ro_push, AH.ro_put])
  have gb : G.get (H.size + 1) = some [.slice pb b.1.length cb, .slice qb b.2.length db] := by rw [hG]; (try simp (disch := omega) only [get_pushB, get_putB, pickB_t, pickB_f, eqB_t, eqB_f, ltB_t, AH.size_push, AH.size_put, AH.ro_push, AH.ro_put])
  have g0 : G.get (H.size + 1 + 1) = some [.slice none 0 0, .slice none 0 0] := by rw [hG]; (try simp (disch := omega) only [get_pushB, get_putB, pickB_t, pickB_f, eqB_t, eqB_f, ltB_t, AH.size_push, AH.size_put, AH.ro_push, AH.ro_put])
  have hsz : G.size = H.size + 3 := by rw [hG]; rfl
  clear hG
  refine callW_of (CopyTensorD_ok G (by omega) a _ (TenV.mono hE ha) hbd) ?_
  rintro r G2 ⟨⟨vd, vx, rfl, hod, hox, hne⟩, hE2⟩
  obtain ⟨pd, cd, rfl⟩ := hod.ints.inv
  obtain ⟨nx, rfl⟩ := hox.block hn
  have hr2 := hE2.ro
  have hs2 := hE2.size
  have hbx2 := Own.blk hox _ _ _ rfl
  simp only at hbx2
  simp (disch := omega) only [go_sem, Nat.reduceEqDiff, Nat.reduceAdd, ↓reduceIte, get_pushB, get_putB, pickB_t, pickB_f, eqB_t, eqB_f, ltB_t, leB_t, AH.size_push, AH.size_put, AH.ro_push, AH.ro_put]
  refine Sat_gen ?_
  intro G3 hG3
  have hE3 : Ext G2 G3 := by rw [hG3]; exact (Ext.push _ _).put (Nat.le_refl _) (by simp only [AH.size_push]; omega) _
  have hs3 : G3.size = G2.size + 1 := by rw [hG3]; rfl
  have kt : G3.get G2.size = some [.slice pd a.1.length cd, .slice (some ⟨nx, 0, none⟩) a.2.length 1] := by rw [hG3]; (try simp (disch := omega) only [get_pushB, get_putB, pickB_t, pickB_f, eqB_t, eqB_f, ltB_t, AH.size_push, AH.size_put, AH.ro_push, AH.ro_put])
  have hr3 := hE3.ro
  clear hG3
  have hE23 := hE2.trans hE3
  have ga := hE23.get _ _ ga
  have gb := hE23.get _ _ gb
  have g0 := hE23.get _ _ g0
  have hEH := hE.trans hE23
  have hZl : (List.zipWith (fun x y => IntKind.i64.wrap (x - y)) a.2 b.2).length = a.2.length := by rw [List.length_zipWith, hl]; omega
  generalize hZ : List.zipWith (fun x y => IntKind.i64.wrap (x - y)) a.2 b.2 = Z at *
  have hbd3 := hax.bd
  refine Sat_loop 3000 (fun k H' V => ∃ (i : Nat) (x : Value), i ≤ a.2.length ∧ k = a.2.length - i ∧ Fr nx G3 H' ∧ OwnI G H' (.slice (some ⟨nx, 0, none⟩) a.2.length 1) (Z.take i ++ a.2.drop i) ∧ V = [.agg #[.slice pa a.1.length ca, .slice qa a.2.length da], .agg #[.slice pb b.1.length cb, .slice qb b.2.length db], .int .i64 1, .pointer (some ⟨H.size, 0, none⟩), .pointer (some ⟨H.size + 1, 0, none⟩), .pointer (some ⟨H.size + 1 + 1, 0, none⟩), .pointer (some ⟨G2.size, 0, none⟩), .int .i64 i, x]) a.2.length ⟨0, _, by omega, by omega, Fr.refl _ _, by simpa using hox.ext hE3, rfl⟩ ?_
  rintro k H' V ⟨i, x, hi, rfl, hF, ho, rfl⟩ ih
  have ja := hF.get _ _ (by omega) ga
  have jb := hF.get _ _ (by omega) gb
  have j0 := hF.get _ _ (by omega) g0
  have jt := hF.get _ _ (by omega) kt
  have hrF := hF.ro
  have hsF := hF.size
  have hEF := hF.ext hEH (by omega)
  have hax' := Ints.mono hEF hax
  have hbx' := Ints.mono hEF hbx
  have hlen : (Z.take i ++ a.2.drop i).length = a.2.length := by simp; omega
  simp (disch := omega) only [go_sem, Nat.reduceEqDiff, Nat.reduceAdd, ↓reduceIte, get_pushB, get_putB, pickB_t, pickB_f, eqB_t, eqB_f, ltB_t, leB_t, AH.size_push, AH.size_put, AH.ro_push, AH.ro_put, jt]
  refine Split.mk (fun h1 => ?_) (fun h1 => ?_)
  · have hzi : (fun x y => IntKind.i64.wrap (x - y)) (gi a.2 i) (gi b.2 i) = Z[i]'(by omega) := by
      subst hZ
      rw [List.getElem_zipWith, gi_eq (by omega), gi_eq (by omega)]
    simp only at hzi
    obtain ⟨hst, ho2, hb1, hb2⟩ := ho.set i (Z[i]'(by omega)) (by omega)
    simp (disch := omega) only [go_sem, Nat.reduceEqDiff, Nat.reduceAdd, ↓reduceIte, get_pushB, get_putB, pickB_t, pickB_f, eqB_t, eqB_f, ltB_t, leB_t, AH.size_push, AH.size_put, AH.ro_push, AH.ro_put, Int.reduceEq, decide_true, decide_false, ja, jb, jt, ixI hax', ixI hbx', ldI hax', ldI hbx', ixI ho.ints]
    simp (disch := omega) only [go_sem, Nat.reduceEqDiff, Nat.reduceAdd, ↓reduceIte, get_pushB, get_putB, pickB_t, pickB_f, eqB_t, eqB_f, ltB_t, leB_t, AH.size_push, AH.size_put, AH.ro_push, AH.ro_put, hzi, hst]
    refine ih _ _ _ ?_ ⟨i + 1, _, ?_, rfl, hF.trans (Fr.put nx _ hb1 _), ?_, rfl⟩
    · omega
    · omega
    · rw [← take_step2 Z a.2 i (by omega) (by omega)]; exact ho2
  · have hiN : i = a.2.length := by omega
    subst hiN
    have hod2 : OwnI G H' (.slice pd a.1.length cd) a.1 := Own.fr (hod.ext hE3) hF (fun p q r e => fun e2 => hne _ _ _ e _ _ _ rfl e2.symm)
    have ho3 : OwnI G H' (.slice (some ⟨nx, 0, none⟩) a.2.length 1) Z := by
      have := ho
      rw [List.take_of_length_le (by omega), List.drop_of_length_le (by omega)] at this
      simpa [OwnI, hZl] using this
    have hT : OwnTD G H' (.agg #[.slice pd a.1.length cd, .slice (some ⟨nx, 0, none⟩) a.2.length 1]) (a.1, Z) := ⟨_, _, rfl, hod2, ho3, hne⟩
    simp (disch := omega) only [go_sem, Nat.reduceEqDiff, Nat.reduceAdd, ↓reduceIte, get_pushB, get_putB, pickB_t, pickB_f, eqB_t, eqB_f, ltB_t, leB_t, AH.size_push, AH.size_put, AH.ro_push, AH.ro_put, j0, jt]
    exact ⟨hT.out hE h0 (by omega) _, hEF.put (by omega) (by omega) _⟩
theorem Each2_ok (H : AH) (h0 : H.ro ≤ H.size) (a b : Ten) (va vb : Value) (ha : TenV H va a) (hb : TenV H vb b) (hl : b.2.length = a.2.length) (hbd : a.1.length ≤ 1000000000000 ∧ a.2.length ≤ 1000000000000) (hn : a.2 ≠ []) :
    Runs tb 89 [va, vb, .int .i64 2] H (fun r H' => OwnTD H H' r (a.1, List.zipWith (fun x y => IntKind.i64.wrap (x * y)) a.2 b.2) ∧ Ext H H') := by
  obtain ⟨ad, ax, rfl, had, hax⟩ := id ha
  obtain ⟨bd, bx, rfl, hbd2, hbx⟩ := id hb
  obtain ⟨pa, ca, rfl⟩ := had.inv
  obtain ⟨pb, cb, rfl⟩ := hbd2.inv
  obtain ⟨qa, da, rfl⟩ := hax.inv
  obtain ⟨qb, db, rfl⟩ := hbx.inv
  refine Runs_fn (fn := Try.f89) [.cell 6 32] [0, 1, 2, 3, 4, 6, 7, 8, 18] [] 3000 (by kernel_rfl) rfl (by kernel_rfl) (by kernel_rfl) rfl ?_; simp only [pad, argAt]
  simp (disch := omega) only [go_sem, Nat.reduceEqDiff, Nat.reduceAdd, ↓reduceIte, get_pushB, get_putB, pickB_t, pickB_f, eqB_t, eqB_f, ltB_t, leB_t, AH.size_push, AH.size_put, AH.ro_push, AH.ro_put]
  refine callW_gen ?_
  intro G hG
  have hE : Ext H G := by rw [hG]; exact ((Ext.push _ _).pushed _).pushed _
  have hr := hE.ro
  have hs := hE.size
  have ga : G.get H.size = some [.slice pa a.1.length ca, .slice qa a.2.length da] := by rw [hG]; (try simp (disch := omega) only [get_pushB, get_putB, pickB_t, pickB_f, eqB_t, eqB_f, ltB_t, AH.size_push, AH.size_put, AH.ro_push, AH.ro_put])
  have gb : G.get (H.size + 1) = some [.slice pb b.1.length cb, .slice qb b.2.length db] := by rw [hG]; (try simp (disch := omega) only [get_pushB, get_putB, pickB_t, pickB_f, eqB_t, eqB_f, ltB_t, AH.size_push, AH.size_put, AH.ro_push, AH.ro_put])
  have g0 : G.get (H.size + 1 + 1) = some [.slice none 0 0, .slice none 0 0] := by rw [hG]; (try simp (disch := omega) only [get_pushB, get_putB, pickB_t, pickB_f, eqB_t, eqB_f, ltB_t, AH.size_push, AH.size_put, AH.ro_push, AH.ro_put])
  have hsz : G.size = H.size + 3 := by rw [hG]; rfl
  clear hG
  refine callW_of (CopyTensorD_ok G (by omega) a _ (TenV.mono hE ha) hbd) ?_
  rintro r G2 ⟨⟨vd, vx, rfl, hod, hox, hne⟩, hE2⟩
  obtain ⟨pd, cd, rfl⟩ := hod.ints.inv
  obtain ⟨nx, rfl⟩ := hox.block hn
  have hr2 := hE2.ro
  have hs2 := hE2.size
  have hbx2 := Own.blk hox _ _ _ rfl
  simp only at hbx2
  simp (disch := omega) only [go_sem, Nat.reduceEqDiff, Nat.reduceAdd, ↓reduceIte, get_pushB, get_putB, pickB_t, pickB_f, eqB_t, eqB_f, ltB_t, leB_t, AH.size_push, AH.size_put, AH.ro_push, AH.ro_put]
  refine Sat_gen ?_
  intro G3 hG3
  have hE3 : Ext G2 G3 := by rw [hG3]; exact (Ext.push _ _).put (Nat.le_refl _) (by simp only [AH.size_push]; omega) _
  have hs3 : G3.size = G2.size + 1 := by rw [hG3]; rfl
  have kt : G3.get G2.size = some [.slice pd a.1.length cd, .slice (some ⟨nx, 0, none⟩) a.2.length 1] := by rw [hG3]; (try simp (disch := omega) only [get_pushB, get_putB, pickB_t, pickB_f, eqB_t, eqB_f, ltB_t, AH.size_push, AH.size_put, AH.ro_push, AH.ro_put])
  have hr3 := hE3.ro
  clear hG3
  have hE23 := hE2.trans hE3
  have ga := hE23.get _ _ ga
  have gb := hE23.get _ _ gb
  have g0 := hE23.get _ _ g0
  have hEH := hE.trans hE23
  have hZl : (List.zipWith (fun x y => IntKind.i64.wrap (x * y)) a.2 b.2).length = a.2.length := by rw [List.length_zipWith, hl]; omega
  generalize hZ : List.zipWith (fun x y => IntKind.i64.wrap (x * y)) a.2 b.2 = Z at *
  have hbd3 := hax.bd
  refine Sat_loop 3000 (fun k H' V => ∃ (i : Nat) (x : Value), i ≤ a.2.length ∧ k = a.2.length - i ∧ Fr nx G3 H' ∧ OwnI G H' (.slice (some ⟨nx, 0, none⟩) a.2.length 1) (Z.take i ++ a.2.drop i) ∧ V = [.agg #[.slice pa a.1.length ca, .slice qa a.2.length da], .agg #[.slice pb b.1.length cb, .slice qb b.2.length db], .int .i64 2, .pointer (some ⟨H.size, 0, none⟩), .pointer (some ⟨H.size + 1, 0, none⟩), .pointer (some ⟨H.size + 1 + 1, 0, none⟩), .pointer (some ⟨G2.size, 0, none⟩), .int .i64 i, x]) a.2.length ⟨0, _, by omega, by omega, Fr.refl _ _, by simpa using hox.ext hE3, rfl⟩ ?_
  rintro k H' V ⟨i, x, hi, rfl, hF, ho, rfl⟩ ih
  have ja := hF.get _ _ (by omega) ga
  have jb := hF.get _ _ (by omega) gb
  have j0 := hF.get _ _ (by omega) g0
  have jt := hF.get _ _ (by omega) kt
  have hrF := hF.ro
  have hsF := hF.size
  have hEF := hF.ext hEH (by omega)
  have hax' := Ints.mono hEF hax
  have hbx' := Ints.mono hEF hbx
  have hlen : (Z.take i ++ a.2.drop i).length = a.2.length := by simp; omega
  simp (disch := omega) only [go_sem, Nat.reduceEqDiff, Nat.reduceAdd, ↓reduceIte, get_pushB, get_putB, pickB_t, pickB_f, eqB_t, eqB_f, ltB_t, leB_t, AH.size_push, AH.size_put, AH.ro_push, AH.ro_put, jt]
  refine Split.mk (fun h1 => ?_) (fun h1 => ?_)
  · have hzi : (fun x y => IntKind.i64.wrap (x * y)) (gi a.2 i) (gi b.2 i) = Z[i]'(by omega) := by
      subst hZ
      rw [List.getElem_zipWith, gi_eq (by omega), gi_eq (by omega)]
    simp only at hzi
    obtain ⟨hst, ho2, hb1, hb2⟩ := ho.set i (Z[i]'(by omega)) (by omega)
    simp (disch := omega) only [go_sem, Nat.reduceEqDiff, Nat.reduceAdd, ↓reduceIte, get_pushB, get_putB, pickB_t, pickB_f, eqB_t, eqB_f, ltB_t, leB_t, AH.size_push, AH.size_put, AH.ro_push, AH.ro_put, Int.reduceEq, decide_true, decide_false, ja, jb, jt, ixI hax', ixI hbx', ldI hax', ldI hbx', ixI ho.ints]
    simp (disch := omega) only [go_sem, Nat.reduceEqDiff, Nat.reduceAdd, ↓reduceIte, get_pushB, get_putB, pickB_t, pickB_f, eqB_t, eqB_f, ltB_t, leB_t, AH.size_push, AH.size_put, AH.ro_push, AH.ro_put, hzi, hst]
    refine ih _ _ _ ?_ ⟨i + 1, _, ?_, rfl, hF.trans (Fr.put nx _ hb1 _), ?_, rfl⟩
    · omega
    · omega
    · rw [← take_step2 Z a.2 i (by omega) (by omega)]; exact ho2
  · have hiN : i = a.2.length := by omega
    subst hiN
    have hod2 : OwnI G H' (.slice pd a.1.length cd) a.1 := Own.fr (hod.ext hE3) hF (fun p q r e => fun e2 => hne _ _ _ e _ _ _ rfl e2.symm)
    have ho3 : OwnI G H' (.slice (some ⟨nx, 0, none⟩) a.2.length 1) Z := by
      have := ho
      rw [List.take_of_length_le (by omega), List.drop_of_length_le (by omega)] at this
      simpa [OwnI, hZl] using this
    have hT : OwnTD G H' (.agg #[.slice pd a.1.length cd, .slice (some ⟨nx, 0, none⟩) a.2.length 1]) (a.1, Z) := ⟨_, _, rfl, hod2, ho3, hne⟩
    simp (disch := omega) only [go_sem, Nat.reduceEqDiff, Nat.reduceAdd, ↓reduceIte, get_pushB, get_putB, pickB_t, pickB_f, eqB_t, eqB_f, ltB_t, leB_t, AH.size_push, AH.size_put, AH.ro_push, AH.ro_put, j0, jt]
    exact ⟨hT.out hE h0 (by omega) _, hEF.put (by omega) (by omega) _⟩
theorem RefScale_ok (H : AH) (h0 : H.ro ≤ H.size) (a : Ten) (n : Int) (va : Value) (ha : TenV H va a) (hbd : a.1.length ≤ 1000000000000 ∧ a.2.length ≤ 1000000000000) (hn : a.2 ≠ []) :
    Runs tb 90 [va, .int .i64 n] H (fun r H' => OwnTD H H' r (a.1, a.2.map (fun x => IntKind.i64.wrap (x * n))) ∧ Ext H H') := by
  obtain ⟨ad, ax, rfl, had, hax⟩ := id ha
  obtain ⟨pa, ca, rfl⟩ := had.inv
  obtain ⟨qa, da, rfl⟩ := hax.inv
  refine Runs_fn (fn := Try.f90) [.cell 4 32] [0, 1, 2, 4, 5, 6] [] 3000 (by kernel_rfl) rfl (by kernel_rfl) (by kernel_rfl) rfl ?_; simp only [pad, argAt]
  simp (disch := omega) only [go_sem, Nat.reduceEqDiff, Nat.reduceAdd, ↓reduceIte, get_pushB, get_putB, pickB_t, pickB_f, eqB_t, eqB_f, ltB_t, leB_t, AH.size_push, AH.size_put, AH.ro_push, AH.ro_put]
  refine callW_gen ?_
  intro G hG
  have hE : Ext H G := by rw [hG]; exact (Ext.push _ _).pushed _
  have hr := hE.ro
  have hs := hE.size
  have ga : G.get H.size = some [.slice pa a.1.length ca, .slice qa a.2.length da] := by rw [hG]; (try simp (disch := omega) only [get_pushB, get_putB, pickB_t, pickB_f, eqB_t, eqB_f, ltB_t, AH.size_push, AH.size_put, AH.ro_push, AH.ro_put])
  have g0 : G.get (H.size + 1) = some [.slice none 0 0, .slice none 0 0] := by rw [hG]; (try simp (disch := omega) only [get_pushB, get_putB, pickB_t, pickB_f, eqB_t, eqB_f, ltB_t, AH.size_push, AH.size_put, AH.ro_push, AH.ro_put])
  have hsz : G.size = H.size + 2 := by rw [hG]; rfl
  clear hG
  refine callW_of (CopyTensorD_ok G (by omega) a _ (TenV.mono hE ha) hbd) ?_
  rintro r G2 ⟨⟨vd, vx, rfl, hod, hox, hne⟩, hE2⟩
  obtain ⟨pd, cd, rfl⟩ := hod.ints.inv
  obtain ⟨nx, rfl⟩ := hox.block hn
  have hr2 := hE2.ro
  have hs2 := hE2.size
  have hbx2 := Own.blk hox _ _ _ rfl
  simp only at hbx2
  simp (disch := omega) only [go_sem, Nat.reduceEqDiff, Nat.reduceAdd, ↓reduceIte, get_pushB, get_putB, pickB_t, pickB_f, eqB_t, eqB_f, ltB_t, leB_t, AH.size_push, AH.size_put, AH.ro_push, AH.ro_put]
  refine Sat_gen ?_
  intro G3 hG3
  have hE3 : Ext G2 G3 := by rw [hG3]; exact (Ext.push _ _).put (Nat.le_refl _) (by simp only [AH.size_push]; omega) _
  have hs3 : G3.size = G2.size + 1 := by rw [hG3]; rfl
  have kt : G3.get G2.size = some [.slice pd a.1.length cd, .slice (some ⟨nx, 0, none⟩) a.2.length 1] := by rw [hG3]; (try simp (disch := omega) only [get_pushB, get_putB, pickB_t, pickB_f, eqB_t, eqB_f, ltB_t, AH.size_push, AH.size_put, AH.ro_push, AH.ro_put])
  have hr3 := hE3.ro
  clear hG3
  have hE23 := hE2.trans hE3
  have ga := hE23.get _ _ ga
  have g0 := hE23.get _ _ g0
  have hEH := hE.trans hE23
  have hZl : (a.2.map (fun x => IntKind.i64.wrap (x * n))).length = a.2.length := by rw [List.length_map]
  generalize hZ : a.2.map (fun x => IntKind.i64.wrap (x * n)) = Z at *
  have hbd3 := hax.bd
  refine Sat_loop 3000 (fun k H' V => ∃ (i : Nat), i ≤ a.2.length ∧ k = a.2.length - i ∧ Fr nx G3 H' ∧ OwnI G H' (.slice (some ⟨nx, 0, none⟩) a.2.length 1) (Z.take i ++ a.2.drop i) ∧ V = [.agg #[.slice pa a.1.length ca, .slice qa a.2.length da], .int .i64 n, .pointer (some ⟨H.size, 0, none⟩), .pointer (some ⟨H.size + 1, 0, none⟩), .pointer (some ⟨G2.size, 0, none⟩), .int .i64 i]) a.2.length ⟨0, by omega, by omega, Fr.refl _ _, by simpa using hox.ext hE3, rfl⟩ ?_
  rintro k H' V ⟨i, hi, rfl, hF, ho, rfl⟩ ih
  have ja := hF.get _ _ (by omega) ga
  have j0 := hF.get _ _ (by omega) g0
  have jt := hF.get _ _ (by omega) kt
  have hrF := hF.ro
  have hsF := hF.size
  have hEF := hF.ext hEH (by omega)
  have hax' := Ints.mono hEF hax
  have hlen : (Z.take i ++ a.2.drop i).length = a.2.length := by simp; omega
  simp (disch := omega) only [go_sem, Nat.reduceEqDiff, Nat.reduceAdd, ↓reduceIte, get_pushB, get_putB, pickB_t, pickB_f, eqB_t, eqB_f, ltB_t, leB_t, AH.size_push, AH.size_put, AH.ro_push, AH.ro_put, jt]
  refine Split.mk (fun h1 => ?_) (fun h1 => ?_)
  · have hzi : IntKind.i64.wrap (gi a.2 i * n) = Z[i]'(by omega) := by
      subst hZ
      rw [List.getElem_map, gi_eq (by omega)]
    have hgi : gi (Z.take i ++ a.2.drop i) i = gi a.2 i := by
      rw [gi_eq (by omega), gi_eq (by omega)]
      rw [List.getElem_append_right (by simp; omega)]
      simp only [List.getElem_drop]
      congr 1
      simp; omega
    obtain ⟨hst, ho2, hb1, hb2⟩ := ho.set i (Z[i]'(by omega)) (by omega)
    simp (disch := omega) only [go_sem, Nat.reduceEqDiff, Nat.reduceAdd, ↓reduceIte, get_pushB, get_putB, pickB_t, pickB_f, eqB_t, eqB_f, ltB_t, leB_t, AH.size_push, AH.size_put, AH.ro_push, AH.ro_put, Int.reduceEq, decide_true, decide_false, ja, jt, ixI ho.ints, ldI ho.ints, hgi]
    simp (disch := omega) only [go_sem, Nat.reduceEqDiff, Nat.reduceAdd, ↓reduceIte, get_pushB, get_putB, pickB_t, pickB_f, eqB_t, eqB_f, ltB_t, leB_t, AH.size_push, AH.size_put, AH.ro_push, AH.ro_put, hzi, hst]
    refine ih _ _ _ ?_ ⟨i + 1, ?_, rfl, hF.trans (Fr.put nx _ hb1 _), ?_, rfl⟩
    · omega
    · omega
    · rw [← take_step2 Z a.2 i (by omega) (by omega)]; exact ho2
  · have hiN : i = a.2.length := by omega
    subst hiN
    have hod2 : OwnI G H' (.slice pd a.1.length cd) a.1 := Own.fr (hod.ext hE3) hF (fun p q r e => fun e2 => hne _ _ _ e _ _ _ rfl e2.symm)
    have ho3 : OwnI G H' (.slice (some ⟨nx, 0, none⟩) a.2.length 1) Z := by
      have := ho
      rw [List.take_of_length_le (by omega), List.drop_of_length_le (by omega)] at this
      simpa [OwnI, hZl] using this
    have hT : OwnTD G H' (.agg #[.slice pd a.1.length cd, .slice (some ⟨nx, 0, none⟩) a.2.length 1]) (a.1, Z) := ⟨_, _, rfl, hod2, ho3, hne⟩
    simp (disch := omega) only [go_sem, Nat.reduceEqDiff, Nat.reduceAdd, ↓reduceIte, get_pushB, get_putB, pickB_t, pickB_f, eqB_t, eqB_f, ltB_t, leB_t, AH.size_push, AH.size_put, AH.ro_push, AH.ro_put, j0, jt]
    exact ⟨hT.out hE h0 (by omega) _, hEF.put (by omega) (by omega) _⟩
theorem AddF_ok (G : AH) (x y : Int) : Runs tb 103 [.int .i64 x, .int .i64 y] G (fun r G' => r = .int .i64 (IntKind.i64.wrap (x + y)) ∧ G' = G) := by
  refine Runs_fn (fn := Try.f103) [.tmp 4] [0, 1, 4] [] 3000 (by kernel_rfl) rfl (by kernel_rfl) (by kernel_rfl) rfl ?_; simp only [pad, argAt]
  simp (disch := omega) only [go_sem, Nat.reduceEqDiff, Nat.reduceAdd, ↓reduceIte]
theorem Add_ok (H : AH) (h0 : H.ro ≤ H.size) (a b : Ten) (va vb : Value) (ha : TenV H va a) (hb : TenV H vb b) (ta : isT a = true) (tb' : isT b = true) :
    Runs tb 64 [va, vb] H (DoPost H (if a.1 = b.1 then (a.1, List.zipWith (fun x y => IntKind.i64.wrap (x + y)) a.2 b.2) else ([], [])) (if a.1 = b.1 then 0 else 4)) := by
  obtain ⟨ad, ax, rfl, had, hax⟩ := id ha
  obtain ⟨bd, bx, rfl, hbd, hbx⟩ := id hb
  obtain ⟨pa, ca, rfl⟩ := had.inv
  obtain ⟨pb, cb, rfl⟩ := hbd.inv
  obtain ⟨qa, da, rfl⟩ := hax.inv
  obtain ⟨qb, db, rfl⟩ := hbx.inv
  refine Runs_fn (fn := Try.f64) [.cell 4 32, .tmp 5] [0, 1, 2, 3, 4, 5] [] 3000 (by kernel_rfl) rfl (by kernel_rfl) (by kernel_rfl) rfl ?_; simp only [pad, argAt]
  simp (disch := omega) only [go_sem, Nat.reduceEqDiff, Nat.reduceAdd, ↓reduceIte, get_pushB, get_putB, pickB_t, pickB_f, eqB_t, eqB_f, ltB_t, leB_t, AH.size_push, AH.size_put, AH.ro_push, AH.ro_put, Int.reduceEq, decide_true, decide_false]
  refine callW_gen ?_
  intro G hG
  have hE : Ext H G := by rw [hG]; exact ((Ext.push _ _).pushed _).pushed _
  have hr := hE.ro
  have hs := hE.size
  have hsz : G.size = H.size + 3 := by rw [hG]; rfl
  have g0 : G.get (H.size + 1 + 1) = some [.slice none 0 0, .slice none 0 0] := by rw [hG]; (try simp (disch := omega) only [get_pushB, get_putB, pickB_t, pickB_f, eqB_t, eqB_f, ltB_t, AH.size_push, AH.size_put, AH.ro_push, AH.ro_put])
  clear hG
  refine callW_of (two_ok G (by omega) a b _ _ (TenV.mono hE ha) (TenV.mono hE hb) ta tb' 103 #[] (fun x y => IntKind.i64.wrap (x + y)) (fun G2 x y _ => AddF_ok G2 x y)) ?_
  rintro r G4 ⟨u, rfl, hot, hE4⟩
  obtain ⟨vu, wu, rfl, hu1, hu2, _⟩ := id hot
  obtain ⟨pu, cu, rfl⟩ := hu1.ints.inv
  obtain ⟨pw, cw, rfl⟩ := hu2.ints.inv
  have q0 := hE4.get _ _ g0
  have hr4 := hE4.ro
  have hs4 := hE4.size
  simp (disch := omega) only [go_sem, Nat.reduceEqDiff, Nat.reduceAdd, ↓reduceIte, get_pushB, get_putB, pickB_t, pickB_f, eqB_t, eqB_f, ltB_t, leB_t, AH.size_push, AH.size_put, AH.ro_push, AH.ro_put, q0]
  exact ⟨_, rfl, hot.out hE h0 (by omega) _, (hE.trans hE4).put (by omega) (by omega) _⟩
theorem SubF_ok (G : AH) (x y : Int) : Runs tb 104 [.int .i64 x, .int .i64 y] G (fun r G' => r = .int .i64 (IntKind.i64.wrap (x - y)) ∧ G' = G) := by
  refine Runs_fn (fn := Try.f104) [.tmp 4] [0, 1, 4] [] 3000 (by kernel_rfl) rfl (by kernel_rfl) (by kernel_rfl) rfl ?_; simp only [pad, argAt]
  simp (disch := omega) only [go_sem, Nat.reduceEqDiff, Nat.reduceAdd, ↓reduceIte]
theorem Sub_ok (H : AH) (h0 : H.ro ≤ H.size) (a b : Ten) (va vb : Value) (ha : TenV H va a) (hb : TenV H vb b) (ta : isT a = true) (tb' : isT b = true) :
    Runs tb 65 [va, vb] H (DoPost H (if a.1 = b.1 then (a.1, List.zipWith (fun x y => IntKind.i64.wrap (x - y)) a.2 b.2) else ([], [])) (if a.1 = b.1 then 0 else 4)) := by
  obtain ⟨ad, ax, rfl, had, hax⟩ := id ha
  obtain ⟨bd, bx, rfl, hbd, hbx⟩ := id hb
  obtain ⟨pa, ca, rfl⟩ := had.inv
  obtain ⟨pb, cb, rfl⟩ := hbd.inv
  obtain ⟨qa, da, rfl⟩ := hax.inv
  obtain ⟨qb, db, rfl⟩ := hbx.inv
  refine Runs_fn (fn := Try.f65) [.cell 4 32, .tmp 5] [0, 1, 2, 3, 4, 5] [] 3000 (by kernel_rfl) rfl (by kernel_rfl) (by kernel_rfl) rfl ?_; simp only [pad, argAt]
  simp (disch := omega) only [go_sem, Nat.reduceEqDiff, Nat.reduceAdd, ↓reduceIte, get_pushB, get_putB, pickB_t, pickB_f, eqB_t, eqB_f, ltB_t, leB_t, AH.size_push, AH.size_put, AH.ro_push, AH.ro_put, Int.reduceEq, decide_true, decide_false]
  refine callW_gen ?_
  intro G hG
  have hE : Ext H G := by rw [hG]; exact ((Ext.push _ _).pushed _).pushed _
  have hr := hE.ro
  have hs := hE.size
  have hsz : G.size = H.size + 3 := by rw [hG]; rfl
  have g0 : G.get (H.size + 1 + 1) = some [.slice none 0 0, .slice none 0 0] := by rw [hG]; (try simp (disch := omega) only [get_pushB, get_putB, pickB_t, pickB_f, eqB_t, eqB_f, ltB_t, AH.size_push, AH.size_put, AH.ro_push, AH.ro_put])
  clear hG
  refine callW_of (two_ok G (by omega) a b _ _ (TenV.mono hE ha) (TenV.mono hE hb) ta tb' 104 #[] (fun x y => IntKind.i64.wrap (x - y)) (fun G2 x y _ => SubF_ok G2 x y)) ?_
  rintro r G4 ⟨u, rfl, hot, hE4⟩
  obtain ⟨vu, wu, rfl, hu1, hu2, _⟩ := id hot
  obtain ⟨pu, cu, rfl⟩ := hu1.ints.inv
  obtain ⟨pw, cw, rfl⟩ := hu2.ints.inv
  have q0 := hE4.get _ _ g0
  have hr4 := hE4.ro
  have hs4 := hE4.size
  simp (disch := omega) only [go_sem, Nat.reduceEqDiff, Nat.reduceAdd, ↓reduceIte, get_pushB, get_putB, pickB_t, pickB_f, eqB_t, eqB_f, ltB_t, leB_t, AH.size_push, AH.size_put, AH.ro_push, AH.ro_put, q0]
  exact ⟨_, rfl, hot.out hE h0 (by omega) _, (hE.trans hE4).put (by omega) (by omega) _⟩
theorem MulF_ok (G : AH) (x y : Int) : Runs tb 105 [.int .i64 x, .int .i64 y] G (fun r G' => r = .int .i64 (IntKind.i64.wrap (x * y)) ∧ G' = G) := by
  refine Runs_fn (fn := Try.f105) [.tmp 4] [0, 1, 4] [] 3000 (by kernel_rfl) rfl (by kernel_rfl) (by kernel_rfl) rfl ?_; simp only [pad, argAt]
  simp (disch := omega) only [go_sem, Nat.reduceEqDiff, Nat.reduceAdd, ↓reduceIte]
theorem Mul_ok (H : AH) (h0 : H.ro ≤ H.size) (a b : Ten) (va vb : Value) (ha : TenV H va a) (hb : TenV H vb b) (ta : isT a = true) (tb' : isT b = true) :
    Runs tb 66 [va, vb] H (DoPost H (if a.1 = b.1 then (a.1, List.zipWith (fun x y => IntKind.i64.wrap (x * y)) a.2 b.2) else ([], [])) (if a.1 = b.1 then 0 else 4)) := by
  obtain ⟨ad, ax, rfl, had, hax⟩ := id ha
  obtain ⟨bd, bx, rfl, hbd, hbx⟩ := id hb
  obtain ⟨pa, ca, rfl⟩ := had.inv
  obtain ⟨pb, cb, rfl⟩ := hbd.inv
  obtain ⟨qa, da, rfl⟩ := hax.inv
  obtain ⟨qb, db, rfl⟩ := hbx.inv
  refine Runs_fn (fn := Try.f66) [.cell 4 32, .tmp 5] [0, 1, 2, 3, 4, 5] [] 3000 (by kernel_rfl) rfl (by kernel_rfl) (by kernel_rfl) rfl ?_; simp only [pad, argAt]
  simp (disch := omega) only [go_sem, Nat.reduceEqDiff, Nat.reduceAdd, ↓reduceIte, get_pushB, get_putB, pickB_t, pickB_f, eqB_t, eqB_f, ltB_t, leB_t, AH.size_push, AH.size_put, AH.ro_push, AH.ro_put, Int.reduceEq, decide_true, decide_false]
  refine callW_gen ?_
  intro G hG
  have hE : Ext H G := by rw [hG]; exact ((Ext.push _ _).pushed _).pushed _
  have hr := hE.ro
  have hs := hE.size
  have hsz : G.size = H.size + 3 := by rw [hG]; rfl
  have g0 : G.get (H.size + 1 + 1) = some [.slice none 0 0, .slice none 0 0] := by rw [hG]; (try simp (disch := omega) only [get_pushB, get_putB, pickB_t, pickB_f, eqB_t, eqB_f, ltB_t, AH.size_push, AH.size_put, AH.ro_push, AH.ro_put])
  clear hG
  refine callW_of (two_ok G (by omega) a b _ _ (TenV.mono hE ha) (TenV.mono hE hb) ta tb' 105 #[] (fun x y => IntKind.i64.wrap (x * y)) (fun G2 x y _ => MulF_ok G2 x y)) ?_
  rintro r G4 ⟨u, rfl, hot, hE4⟩
  obtain ⟨vu, wu, rfl, hu1, hu2, _⟩ := id hot
  obtain ⟨pu, cu, rfl⟩ := hu1.ints.inv
  obtain ⟨pw, cw, rfl⟩ := hu2.ints.inv
  have q0 := hE4.get _ _ g0
  have hr4 := hE4.ro
  have hs4 := hE4.size
  simp (disch := omega) only [go_sem, Nat.reduceEqDiff, Nat.reduceAdd, ↓reduceIte, get_pushB, get_putB, pickB_t, pickB_f, eqB_t, eqB_f, ltB_t, leB_t, AH.size_push, AH.size_put, AH.ro_push, AH.ro_put, q0]
  exact ⟨_, rfl, hot.out hE h0 (by omega) _, (hE.trans hE4).put (by omega) (by omega) _⟩
theorem zipWith_self (f : Int → Int → Int) : ∀ l : List Int, List.zipWith f l l = l.map fun x => f x x
  | [] => rfl
  | x :: l => by simp [zipWith_self f l]
theorem ScaleF_ok (G : AH) (x y n : Int) (b : Nat) (hb : G.get b = some [.int .i64 n]) : Runs tb 108 [.int .i64 x, .int .i64 y, .pointer (some ⟨b, 0, none⟩)] G (fun r G' => r = .int .i64 (IntKind.i64.wrap (x * n)) ∧ G' = G) := by
  refine Runs_fn (fn := Try.f108) [.tmp 5] [0, 1, 2, 5] [] 3000 (by kernel_rfl) rfl (by kernel_rfl) (by kernel_rfl) rfl ?_; simp only [pad, argAt]
  simp (disch := omega) only [go_sem, Nat.reduceEqDiff, Nat.reduceAdd, ↓reduceIte, get_pushB, get_putB, pickB_t, pickB_f, eqB_t, eqB_f, ltB_t, leB_t, AH.size_push, AH.size_put, AH.ro_push, AH.ro_put, hb]
theorem Scale_ok (H : AH) (h0 : H.ro ≤ H.size) (a : Ten) (n : Int) (va : Value) (ha : TenV H va a) (ta : isT a = true) :
    Runs tb 71 [va, .int .i64 n] H (DoPost H (a.1, a.2.map fun x => IntKind.i64.wrap (x * n)) 0) := by
  obtain ⟨ad, ax, rfl, had, hax⟩ := id ha
  obtain ⟨pa, ca, rfl⟩ := had.inv
  obtain ⟨qa, da, rfl⟩ := hax.inv
  refine Runs_fn (fn := Try.f71) [.cell 4 32, .tmp 5] [0, 1, 2, 3, 4, 5] [] 3000 (by kernel_rfl) rfl (by kernel_rfl) (by kernel_rfl) rfl ?_; simp only [pad, argAt]
  simp (disch := omega) only [go_sem, Nat.reduceEqDiff, Nat.reduceAdd, ↓reduceIte, get_pushB, get_putB, pickB_t, pickB_f, eqB_t, eqB_f, ltB_t, leB_t, AH.size_push, AH.size_put, AH.ro_push, AH.ro_put, Int.reduceEq, decide_true, decide_false]
  refine ⟨⟨rfl, trivial⟩, ?_⟩
  refine callW_gen ?_
  intro G hG
  have hE : Ext H G := by rw [hG]; exact ((Ext.push _ _).pushed _).pushed _
  have hr := hE.ro
  have hs := hE.size
  have hsz : G.size = H.size + 3 := by rw [hG]; rfl
  have g0 : G.get (H.size + 1 + 1) = some [.slice none 0 0, .slice none 0 0] := by rw [hG]; (try simp (disch := omega) only [get_pushB, get_putB, pickB_t, pickB_f, eqB_t, eqB_f, ltB_t, AH.size_push, AH.size_put, AH.ro_push, AH.ro_put])
  have gn : G.get (H.size + 1) = some [.int .i64 n] := by rw [hG]; (try simp (disch := omega) only [get_pushB, get_putB, pickB_t, pickB_f, eqB_t, eqB_f, ltB_t, AH.size_push, AH.size_put, AH.ro_push, AH.ro_put])
  clear hG
  refine callW_of (two_ok G (by omega) a a _ _ (TenV.mono hE ha) (TenV.mono hE ha) ta ta 108 #[.pointer (some ⟨H.size + 1, 0, none⟩)] (fun x _ => IntKind.i64.wrap (x * n)) (fun G2 x y hE2 => ScaleF_ok G2 x y n _ (hE2.get _ _ gn))) ?_
  simp only [if_true, zipWith_self]
  rintro r G4 ⟨u, rfl, hot, hE4⟩
  obtain ⟨vu, wu, rfl, hu1, hu2, _⟩ := id hot
  obtain ⟨pu, cu, rfl⟩ := hu1.ints.inv
  obtain ⟨pw, cw, rfl⟩ := hu2.ints.inv
  have q0 := hE4.get _ _ g0
  have hr4 := hE4.ro
  have hs4 := hE4.size
  simp (disch := omega) only [go_sem, Nat.reduceEqDiff, Nat.reduceAdd, ↓reduceIte, get_pushB, get_putB, pickB_t, pickB_f, eqB_t, eqB_f, ltB_t, leB_t, AH.size_push, AH.size_put, AH.ro_push, AH.ro_put, q0]
  exact ⟨_, rfl, hot.out hE h0 (by omega) _, (hE.trans hE4).put (by omega) (by omega) _⟩
theorem Neg_ok (H : AH) (h0 : H.ro ≤ H.size) (a : Ten) (va : Value) (ha : TenV H va a) (ta : isT a = true) :
    Runs tb 70 [va] H (DoPost H (a.1, a.2.map fun x => IntKind.i64.wrap (x * -1)) 0) := by
  obtain ⟨ad, ax, rfl, had, hax⟩ := id ha
  obtain ⟨pa, ca, rfl⟩ := had.inv
  obtain ⟨qa, da, rfl⟩ := hax.inv
  refine Runs_fn (fn := Try.f70) [.cell 2 32, .tmp 3] [0, 1, 2, 3] [] 3000 (by kernel_rfl) rfl (by kernel_rfl) (by kernel_rfl) rfl ?_; simp only [pad, argAt]
  simp (disch := omega) only [go_sem, Nat.reduceEqDiff, Nat.reduceAdd, ↓reduceIte, get_pushB, get_putB, pickB_t, pickB_f, eqB_t, eqB_f, ltB_t, leB_t, AH.size_push, AH.size_put, AH.ro_push, AH.ro_put, Int.reduceEq, decide_true, decide_false]
  refine callW_gen ?_
  intro G hG
  have hE : Ext H G := by rw [hG]; exact (Ext.push _ _).pushed _
  have hr := hE.ro
  have hs := hE.size
  have hsz : G.size = H.size + 2 := by rw [hG]; rfl
  have g0 : G.get (H.size + 1) = some [.slice none 0 0, .slice none 0 0] := by rw [hG]; (try simp (disch := omega) only [get_pushB, get_putB, pickB_t, pickB_f, eqB_t, eqB_f, ltB_t, AH.size_push, AH.size_put, AH.ro_push, AH.ro_put])
  clear hG
  refine callW_of (Scale_ok G (by omega) a (-1) _ (TenV.mono hE ha) ta) ?_
  rintro r G4 ⟨u, rfl, hot, hE4⟩
  obtain ⟨vu, wu, rfl, hu1, hu2, _⟩ := id hot
  obtain ⟨pu, cu, rfl⟩ := hu1.ints.inv
  obtain ⟨pw, cw, rfl⟩ := hu2.ints.inv
  have q0 := hE4.get _ _ g0
  have hr4 := hE4.ro
  have hs4 := hE4.size
  simp (disch := omega) only [go_sem, Nat.reduceEqDiff, Nat.reduceAdd, ↓reduceIte, get_pushB, get_putB, pickB_t, pickB_f, eqB_t, eqB_f, ltB_t, leB_t, AH.size_push, AH.size_put, AH.ro_push, AH.ro_put, q0]
  exact ⟨_, rfl, hot.out hE h0 (by omega) _, (hE.trans hE4).put (by omega) (by omega) _⟩
end Go.Proofs.K
set_option linter.unusedVariables false
set_option maxRecDepth 8000
set_option maxHeartbeats 4000000
set_option linter.unusedSimpArgs false
namespace Go.Proofs.K
open Go Go.Ab
theorem map_getD (l : List Ten) (i : Nat) : (l.map (·.1)).getD i [] = (l.getD i ([], [])).1 := by
  simp only [List.getD_eq_getElem?_getD, List.getElem?_map]
  cases l[i]? <;> rfl
theorem all_getD {l : List Ten} (h : l.all isT = true) {i : Nat} (hi : i < l.length) : isT (l.getD i ([], [])) = true := by
  rw [List.getD_eq_getElem?_getD, List.getElem?_eq_getElem hi]
  exact List.all_eq_true.1 h _ (List.getElem_mem _)
theorem isT_ne {t : Ten} (h : isT t = true) : t.2 ≠ [] := by
  obtain ⟨m, e, _⟩ := isT_spec h
  have := prodL_pos m
  rintro h2
  rw [h2] at e
  simp at e; omega
theorem isT_bd {t : Ten} (h : isT t = true) : t.1.length ≤ 1000000000000 ∧ t.2.length ≤ 1000000000000 := by
  obtain ⟨m, e, _⟩ := isT_spec h
  have := prodL_pos m
  have := (mayP_spec m).2.1
  omega
theorem dbl4_ok (H : AH) (h0 : H.ro ≤ H.size) (a b : Ten) (va vb : Value) (ha : TenV H va a) (hb : TenV H vb b) (ta : isT a = true) (tb' : isT b = true) (n : Int) :
    Runs tb 38 [.int .i64 4, .int .i64 n, va, vb] H (DoPost H (if a.1 = b.1 then (a.1, List.zipWith (fun x y => IntKind.i64.wrap (x + y)) a.2 b.2) else ([], [])) (if a.1 = b.1 then 0 else 4)) := by
  obtain ⟨ad, ax, rfl, had, hax⟩ := id ha
  obtain ⟨bd, bx, rfl, hbd, hbx⟩ := id hb
  obtain ⟨pa, ca, rfl⟩ := had.inv
  obtain ⟨pb, cb, rfl⟩ := hbd.inv
  obtain ⟨qa, da, rfl⟩ := hax.inv
  obtain ⟨qb, db, rfl⟩ := hbx.inv
  refine Runs_fn (fn := Try.f38) [.cell 8 32, .tmp 9] [0, 1, 2, 3, 6, 7, 8, 9, 10] [] 3000 (by kernel_rfl) rfl (by kernel_rfl) (by kernel_rfl) rfl ?_; simp only [pad, argAt]
  simp (disch := omega) only [go_sem, Nat.reduceEqDiff, Nat.reduceAdd, ↓reduceIte, get_pushB, get_putB, pickB_t, pickB_f, eqB_t, eqB_f, ltB_t, leB_t, AH.size_push, AH.size_put, AH.ro_push, AH.ro_put, Int.reduceEq, decide_true, decide_false]
  refine callW_gen ?_
  intro G hG
  have hE : Ext H G := by rw [hG]; exact ((Ext.push _ _).pushed _).pushed _
  have hr := hE.ro
  have hs := hE.size
  have hsz : G.size = H.size + 3 := by rw [hG]; rfl
  have g0 : G.get (H.size + 1 + 1) = some [.slice none 0 0, .slice none 0 0] := by rw [hG]; (try simp (disch := omega) only [get_pushB, get_putB, pickB_t, pickB_f, eqB_t, eqB_f, ltB_t, AH.size_push, AH.size_put, AH.ro_push, AH.ro_put])
  clear hG
  refine callW_of (Add_ok G (by omega) a b _ _ (TenV.mono hE ha) (TenV.mono hE hb) ta tb') ?_
  rintro r G4 ⟨u, rfl, hot, hE4⟩
  obtain ⟨vu, wu, rfl, hu1, hu2, _⟩ := id hot
  obtain ⟨pu, cu, rfl⟩ := hu1.ints.inv
  obtain ⟨pw, cw, rfl⟩ := hu2.ints.inv
  have q0 := hE4.get _ _ g0
  have hr4 := hE4.ro
  have hs4 := hE4.size
  simp (disch := omega) only [go_sem, Nat.reduceEqDiff, Nat.reduceAdd, ↓reduceIte, get_pushB, get_putB, pickB_t, pickB_f, eqB_t, eqB_f, ltB_t, leB_t, AH.size_push, AH.size_put, AH.ro_push, AH.ro_put, q0]
  exact ⟨_, rfl, hot.out hE h0 (by omega) _, (hE.trans hE4).put (by omega) (by omega) _⟩
theorem KindOk4 : KindOk 4 (fun n d l => List.zipWith (fun x y => IntKind.i64.wrap (x + y)) (l.getD 0 ([], [])).2 (l.getD 1 ([], [])).2) where
  fill h := by omega
  one n d l h hl := by have := (doOk_form h).2.2.2.2; simp [manyP] at this; omega
  two n d l h hl G u w h0 hu hw := by
    have hA := (doOk_form h).2.2.1
    have := dbl4_ok G h0 _ _ u w hu hw (all_getD hA (by omega)) (all_getD hA (by omega)) n
    have e : doE (fun n d l => List.zipWith (fun x y => IntKind.i64.wrap (x + y)) (l.getD 0 ([], [])).2 (l.getD 1 ([], [])).2) 4 n d l = (if (l.getD 0 ([], [])).1 = (l.getD 1 ([], [])).1 then (((l.getD 0 ([], [])).1, List.zipWith (fun x y => IntKind.i64.wrap (x + y)) (l.getD 0 ([], [])).2 (l.getD 1 ([], [])).2), 0) else (([], []), 4)) := by
      simp only [doE, h, if_true, dimsP, map_getD]
      simp only [Int.reduceEq, or_self, or_false, or_true, false_or, if_true, if_false]
      by_cases hC : (l.getD 0 ([], [])).1 = (l.getD 1 ([], [])).1
      · simp only [if_pos hC]
      · simp only [if_neg hC]
    rw [e]
    split
    · rename_i hc; simp only [if_pos hc] at this; exact this
    · rename_i hc; simp only [if_neg hc] at this; exact this
  ref n d l x h hx G vd vl h0 hd hl := by
    have hA := (doOk_form h).2.2.1
    have hm := (doOk_form h).2.2.2.2
    have hlen : l.length = 2 := by simp [manyP] at hm; omega
    have hx2 : (l.getD 0 ([], [])).1 = (l.getD 1 ([], [])).1 ∧ x = (l.getD 0 ([], [])).1 := by
      simp only [dimsP, map_getD] at hx
      simp only [Int.reduceEq, or_self, or_false, or_true, false_or, if_true, if_false] at hx
      split at hx
      · rename_i hc; cases hx; exact ⟨hc, rfl⟩
      · cases hx
    obtain ⟨hC, rfl⟩ := hx2
    obtain ⟨pl, cl, rfl⟩ := hl.inv
    have ta := all_getD hA (i := 0) (by omega)
    have tb' := all_getD hA (i := 1) (by omega)
    have hP := Ext.push G [.slice none 0 0, .slice none 0 0]
    have hlP := Tens.mono hP hl
    obtain ⟨u0, hu0, ht0⟩ := ldT0 hl (by omega)
    have hu0 := fun (H' : AH) (hE' : Ext G H') => aload_ext hE' hu0
    obtain ⟨u1, hu1, ht1⟩ := ldT1 hl (by omega)
    have hu1 := fun (H' : AH) (hE' : Ext G H') => aload_ext hE' hu1
    refine Runs_fn (fn := Try.f48) [.cell 8 32] [0, 1, 2, 3, 8, 9] [(19, [(5, 1)])] 3000 (by kernel_rfl) rfl (by kernel_rfl) (by kernel_rfl) rfl ?_; simp only [pad, argAt]
    simp (disch := omega) only [go_sem, Nat.reduceEqDiff, Nat.reduceAdd, ↓reduceIte, get_pushB, get_putB, pickB_t, pickB_f, eqB_t, eqB_f, ltB_t, leB_t, AH.size_push, AH.size_put, AH.ro_push, AH.ro_put, Int.reduceEq, decide_true, decide_false, ixT hlP, hu0 _ hP, hu1 _ hP]
    refine callW_gen ?_
    intro G1 hG
    have hE : Ext G G1 := by rw [hG]; exact Ext.push _ _
    have g0 : G1.get G.size = some [.slice none 0 0, .slice none 0 0] := by rw [hG]; (try simp (disch := omega) only [get_pushB, get_putB, pickB_t, pickB_f, eqB_t, eqB_f, ltB_t, AH.size_push, AH.size_put, AH.ro_push, AH.ro_put])
    have hs : G1.size = G.size + 1 := by rw [hG]; rfl
    have hr := hE.ro
    clear hG
    refine callW_of (Each0_ok G1 (by omega) _ _ u0 u1 (TenV.mono hE ht0) (TenV.mono hE ht1) (by rw [(isT_spec ta).2.2, (isT_spec tb').2.2, hC]) (isT_bd ta) (isT_ne ta)) ?_
    rintro r H1 ⟨hot, hE1⟩
    obtain ⟨vu, wu, rfl, hu1, hu2, _⟩ := id hot
    obtain ⟨pu, cu, rfl⟩ := hu1.ints.inv
    obtain ⟨pw, cw, rfl⟩ := hu2.ints.inv
    have q0 := hE1.get _ _ g0
    have hr1 := hE1.ro
    have hs1 := hE1.size
    simp (disch := omega) only [go_sem, Nat.reduceEqDiff, Nat.reduceAdd, ↓reduceIte, get_pushB, get_putB, pickB_t, pickB_f, eqB_t, eqB_f, ltB_t, leB_t, AH.size_push, AH.size_put, AH.ro_push, AH.ro_put, q0]
    exact ⟨hot.out hE h0 (by omega) _, (hE.trans hE1).put (Nat.le_refl _) (by omega) _⟩
theorem dbl5_ok (H : AH) (h0 : H.ro ≤ H.size) (a b : Ten) (va vb : Value) (ha : TenV H va a) (hb : TenV H vb b) (ta : isT a = true) (tb' : isT b = true) (n : Int) :
    Runs tb 38 [.int .i64 5, .int .i64 n, va, vb] H (DoPost H (if a.1 = b.1 then (a.1, List.zipWith (fun x y => IntKind.i64.wrap (x - y)) a.2 b.2) else ([], [])) (if a.1 = b.1 then 0 else 4)) := by
  obtain ⟨ad, ax, rfl, had, hax⟩ := id ha
  obtain ⟨bd, bx, rfl, hbd, hbx⟩ := id hb
  obtain ⟨pa, ca, rfl⟩ := had.inv
  obtain ⟨pb, cb, rfl⟩ := hbd.inv
  obtain ⟨qa, da, rfl⟩ := hax.inv
  obtain ⟨qb, db, rfl⟩ := hbx.inv
  refine Runs_fn (fn := Try.f38) [.cell 8 32, .tmp 9] [0, 1, 2, 3, 6, 7, 8, 9, 10] [] 3000 (by kernel_rfl) rfl (by kernel_rfl) (by kernel_rfl) rfl ?_; simp only [pad, argAt]
  simp (disch := omega) only [go_sem, Nat.reduceEqDiff, Nat.reduceAdd, ↓reduceIte, get_pushB, get_putB, pickB_t, pickB_f, eqB_t, eqB_f, ltB_t, leB_t, AH.size_push, AH.size_put, AH.ro_push, AH.ro_put, Int.reduceEq, decide_true, decide_false]
  refine callW_gen ?_
  intro G hG
  have hE : Ext H G := by rw [hG]; exact ((Ext.push _ _).pushed _).pushed _
  have hr := hE.ro
  have hs := hE.size
  have hsz : G.size = H.size + 3 := by rw [hG]; rfl
  have g0 : G.get (H.size + 1 + 1) = some [.slice none 0 0, .slice none 0 0] := by rw [hG]; (try simp (disch := omega) only [get_pushB, get_putB, pickB_t, pickB_f, eqB_t, eqB_f, ltB_t, AH.size_push, AH.size_put, AH.ro_push, AH.ro_put])
  clear hG
  refine callW_of (Sub_ok G (by omega) a b _ _ (TenV.mono hE ha) (TenV.mono hE hb) ta tb') ?_
  rintro r G4 ⟨u, rfl, hot, hE4⟩
  obtain ⟨vu, wu, rfl, hu1, hu2, _⟩ := id hot
  obtain ⟨pu, cu, rfl⟩ := hu1.ints.inv
  obtain ⟨pw, cw, rfl⟩ := hu2.ints.inv
  have q0 := hE4.get _ _ g0
  have hr4 := hE4.ro
  have hs4 := hE4.size
  simp (disch := omega) only [go_sem, Nat.reduceEqDiff, Nat.reduceAdd, ↓reduceIte, get_pushB, get_putB, pickB_t, pickB_f, eqB_t, eqB_f, ltB_t, leB_t, AH.size_push, AH.size_put, AH.ro_push, AH.ro_put, q0]
  exact ⟨_, rfl, hot.out hE h0 (by omega) _, (hE.trans hE4).put (by omega) (by omega) _⟩
theorem KindOk5 : KindOk 5 (fun n d l => List.zipWith (fun x y => IntKind.i64.wrap (x - y)) (l.getD 0 ([], [])).2 (l.getD 1 ([], [])).2) where
  fill h := by omega
  one n d l h hl := by have := (doOk_form h).2.2.2.2; simp [manyP] at this; omega
  two n d l h hl G u w h0 hu hw := by
    have hA := (doOk_form h).2.2.1
    have := dbl5_ok G h0 _ _ u w hu hw (all_getD hA (by omega)) (all_getD hA (by omega)) n
    have e : doE (fun n d l => List.zipWith (fun x y => IntKind.i64.wrap (x - y)) (l.getD 0 ([], [])).2 (l.getD 1 ([], [])).2) 5 n d l = (if (l.getD 0 ([], [])).1 = (l.getD 1 ([], [])).1 then (((l.getD 0 ([], [])).1, List.zipWith (fun x y => IntKind.i64.wrap (x - y)) (l.getD 0 ([], [])).2 (l.getD 1 ([], [])).2), 0) else (([], []), 4)) := by
      simp only [doE, h, if_true, dimsP, map_getD]
      simp only [Int.reduceEq, or_self, or_false, or_true, false_or, if_true, if_false]
      by_cases hC : (l.getD 0 ([], [])).1 = (l.getD 1 ([], [])).1
      · simp only [if_pos hC]
      · simp only [if_neg hC]
    rw [e]
    split
    · rename_i hc; simp only [if_pos hc] at this; exact this
    · rename_i hc; simp only [if_neg hc] at this; exact this
  ref n d l x h hx G vd vl h0 hd hl := by
    have hA := (doOk_form h).2.2.1
    have hm := (doOk_form h).2.2.2.2
    have hlen : l.length = 2 := by simp [manyP] at hm; omega
    have hx2 : (l.getD 0 ([], [])).1 = (l.getD 1 ([], [])).1 ∧ x = (l.getD 0 ([], [])).1 := by
      simp only [dimsP, map_getD] at hx
      simp only [Int.reduceEq, or_self, or_false, or_true, false_or, if_true, if_false] at hx
      split at hx
      · rename_i hc; cases hx; exact ⟨hc, rfl⟩
      · cases hx
    obtain ⟨hC, rfl⟩ := hx2
    obtain ⟨pl, cl, rfl⟩ := hl.inv
    have ta := all_getD hA (i := 0) (by omega)
    have tb' := all_getD hA (i := 1) (by omega)
    have hP := Ext.push G [.slice none 0 0, .slice none 0 0]
    have hlP := Tens.mono hP hl
    obtain ⟨u0, hu0, ht0⟩ := ldT0 hl (by omega)
    have hu0 := fun (H' : AH) (hE' : Ext G H') => aload_ext hE' hu0
    obtain ⟨u1, hu1, ht1⟩ := ldT1 hl (by omega)
    have hu1 := fun (H' : AH) (hE' : Ext G H') => aload_ext hE' hu1
    refine Runs_fn (fn := Try.f48) [.cell 8 32] [0, 1, 2, 3, 8, 9] [(19, [(5, 1)])] 3000 (by kernel_rfl) rfl (by kernel_rfl) (by kernel_rfl) rfl ?_; simp only [pad, argAt]
    simp (disch := omega) only [go_sem, Nat.reduceEqDiff, Nat.reduceAdd, ↓reduceIte, get_pushB, get_putB, pickB_t, pickB_f, eqB_t, eqB_f, ltB_t, leB_t, AH.size_push, AH.size_put, AH.ro_push, AH.ro_put, Int.reduceEq, decide_true, decide_false, ixT hlP, hu0 _ hP, hu1 _ hP]
    refine callW_gen ?_
    intro G1 hG
    have hE : Ext G G1 := by rw [hG]; exact Ext.push _ _
    have g0 : G1.get G.size = some [.slice none 0 0, .slice none 0 0] := by rw [hG]; (try simp (disch := omega) only [get_pushB, get_putB, pickB_t, pickB_f, eqB_t, eqB_f, ltB_t, AH.size_push, AH.size_put, AH.ro_push, AH.ro_put])
    have hs : G1.size = G.size + 1 := by rw [hG]; rfl
    have hr := hE.ro
    clear hG
    refine callW_of (Each1_ok G1 (by omega) _ _ u0 u1 (TenV.mono hE ht0) (TenV.mono hE ht1) (by rw [(isT_spec ta).2.2, (isT_spec tb').2.2, hC]) (isT_bd ta) (isT_ne ta)) ?_
    rintro r H1 ⟨hot, hE1⟩
    obtain ⟨vu, wu, rfl, hu1, hu2, _⟩ := id hot
    obtain ⟨pu, cu, rfl⟩ := hu1.ints.inv
    obtain ⟨pw, cw, rfl⟩ := hu2.ints.inv
    have q0 := hE1.get _ _ g0
    have hr1 := hE1.ro
    have hs1 := hE1.size
    simp (disch := omega) only [go_sem, Nat.reduceEqDiff, Nat.reduceAdd, ↓reduceIte, get_pushB, get_putB, pickB_t, pickB_f, eqB_t, eqB_f, ltB_t, leB_t, AH.size_push, AH.size_put, AH.ro_push, AH.ro_put, q0]
    exact ⟨hot.out hE h0 (by omega) _, (hE.trans hE1).put (Nat.le_refl _) (by omega) _⟩
theorem dbl6_ok (H : AH) (h0 : H.ro ≤ H.size) (a b : Ten) (va vb : Value) (ha : TenV H va a) (hb : TenV H vb b) (ta : isT a = true) (tb' : isT b = true) (n : Int) :
    Runs tb 38 [.int .i64 6, .int .i64 n, va, vb] H (DoPost H (if a.1 = b.1 then (a.1, List.zipWith (fun x y => IntKind.i64.wrap (x * y)) a.2 b.2) else ([], [])) (if a.1 = b.1 then 0 else 4)) := by
  obtain ⟨ad, ax, rfl, had, hax⟩ := id ha
  obtain ⟨bd, bx, rfl, hbd, hbx⟩ := id hb
  obtain ⟨pa, ca, rfl⟩ := had.inv
  obtain ⟨pb, cb, rfl⟩ := hbd.inv
  obtain ⟨qa, da, rfl⟩ := hax.inv
  obtain ⟨qb, db, rfl⟩ := hbx.inv
  refine Runs_fn (fn := Try.f38) [.cell 8 32, .tmp 9] [0, 1, 2, 3, 6, 7, 8, 9, 10] [] 3000 (by kernel_rfl) rfl (by kernel_rfl) (by kernel_rfl) rfl ?_; simp only [pad, argAt]
  simp (disch := omega) only [go_sem, Nat.reduceEqDiff, Nat.reduceAdd, ↓reduceIte, get_pushB, get_putB, pickB_t, pickB_f, eqB_t, eqB_f, ltB_t, leB_t, AH.size_push, AH.size_put, AH.ro_push, AH.ro_put, Int.reduceEq, decide_true, decide_false]
  refine callW_gen ?_
  intro G hG
  have hE : Ext H G := by rw [hG]; exact ((Ext.push _ _).pushed _).pushed _
  have hr := hE.ro
  have hs := hE.size
  have hsz : G.size = H.size + 3 := by rw [hG]; rfl
  have g0 : G.get (H.size + 1 + 1) = some [.slice none 0 0, .slice none 0 0] := by rw [hG]; (try simp (disch := omega) only [get_pushB, get_putB, pickB_t, pickB_f, eqB_t, eqB_f, ltB_t, AH.size_push, AH.size_put, AH.ro_push, AH.ro_put])
  clear hG
  refine callW_of (Mul_ok G (by omega) a b _ _ (TenV.mono hE ha) (TenV.mono hE hb) ta tb') ?_
  rintro r G4 ⟨u, rfl, hot, hE4⟩
  obtain ⟨vu, wu, rfl, hu1, hu2, _⟩ := id hot
  obtain ⟨pu, cu, rfl⟩ := hu1.ints.inv
  obtain ⟨pw, cw, rfl⟩ := hu2.ints.inv
  have q0 := hE4.get _ _ g0
  have hr4 := hE4.ro
  have hs4 := hE4.size
  simp (disch := omega) only [go_sem, Nat.reduceEqDiff, Nat.reduceAdd, ↓reduceIte, get_pushB, get_putB, pickB_t, pickB_f, eqB_t, eqB_f, ltB_t, leB_t, AH.size_push, AH.size_put, AH.ro_push, AH.ro_put, q0]
  exact ⟨_, rfl, hot.out hE h0 (by omega) _, (hE.trans hE4).put (by omega) (by omega) _⟩
theorem KindOk6 : KindOk 6 (fun n d l => List.zipWith (fun x y => IntKind.i64.wrap (x * y)) (l.getD 0 ([], [])).2 (l.getD 1 ([], [])).2) where
  fill h := by omega
  one n d l h hl := by have := (doOk_form h).2.2.2.2; simp [manyP] at this; omega
  two n d l h hl G u w h0 hu hw := by
    have hA := (doOk_form h).2.2.1
    have := dbl6_ok G h0 _ _ u w hu hw (all_getD hA (by omega)) (all_getD hA (by omega)) n
    have e : doE (fun n d l => List.zipWith (fun x y => IntKind.i64.wrap (x * y)) (l.getD 0 ([], [])).2 (l.getD 1 ([], [])).2) 6 n d l = (if (l.getD 0 ([], [])).1 = (l.getD 1 ([], [])).1 then (((l.getD 0 ([], [])).1, List.zipWith (fun x y => IntKind.i64.wrap (x * y)) (l.getD 0 ([], [])).2 (l.getD 1 ([], [])).2), 0) else (([], []), 4)) := by
      simp only [doE, h, if_true, dimsP, map_getD]
      simp only [Int.reduceEq, or_self, or_false, or_true, false_or, if_true, if_false]
      by_cases hC : (l.getD 0 ([], [])).1 = (l.getD 1 ([], [])).1
      · simp only [if_pos hC]
      · simp only [if_neg hC]
    rw [e]
    split
    · rename_i hc; simp only [if_pos hc] at this; exact this
    · rename_i hc; simp only [if_neg hc] at this; exact this
  ref n d l x h hx G vd vl h0 hd hl := by
    have hA := (doOk_form h).2.2.1
    have hm := (doOk_form h).2.2.2.2
    have hlen : l.length = 2 := by simp [manyP] at hm; omega
    have hx2 : (l.getD 0 ([], [])).1 = (l.getD 1 ([], [])).1 ∧ x = (l.getD 0 ([], [])).1 := by
      simp only [dimsP, map_getD] at hx
      simp only [Int.reduceEq, or_self, or_false, or_true, false_or, if_true, if_false] at hx
      split at hx
      · rename_i hc; cases hx; exact ⟨hc, rfl⟩
      · cases hx
    obtain ⟨hC, rfl⟩ := hx2
    obtain ⟨pl, cl, rfl⟩ := hl.inv
    have ta := all_getD hA (i := 0) (by omega)
    have tb' := all_getD hA (i := 1) (by omega)
    have hP := Ext.push G [.slice none 0 0, .slice none 0 0]
    have hlP := Tens.mono hP hl
    obtain ⟨u0, hu0, ht0⟩ := ldT0 hl (by omega)
    have hu0 := fun (H' : AH) (hE' : Ext G H') => aload_ext hE' hu0
    obtain ⟨u1, hu1, ht1⟩ := ldT1 hl (by omega)
    have hu1 := fun (H' : AH) (hE' : Ext G H') => aload_ext hE' hu1
    refine Runs_fn (fn := Try.f48) [.cell 8 32] [0, 1, 2, 3, 8, 9] [(19, [(5, 1)])] 3000 (by kernel_rfl) rfl (by kernel_rfl) (by kernel_rfl) rfl ?_; simp only [pad, argAt]
    simp (disch := omega) only [go_sem, Nat.reduceEqDiff, Nat.reduceAdd, ↓reduceIte, get_pushB, get_putB, pickB_t, pickB_f, eqB_t, eqB_f, ltB_t, leB_t, AH.size_push, AH.size_put, AH.ro_push, AH.ro_put, Int.reduceEq, decide_true, decide_false, ixT hlP, hu0 _ hP, hu1 _ hP]
    refine callW_gen ?_
    intro G1 hG
    have hE : Ext G G1 := by rw [hG]; exact Ext.push _ _
    have g0 : G1.get G.size = some [.slice none 0 0, .slice none 0 0] := by rw [hG]; (try simp (disch := omega) only [get_pushB, get_putB, pickB_t, pickB_f, eqB_t, eqB_f, ltB_t, AH.size_push, AH.size_put, AH.ro_push, AH.ro_put])
    have hs : G1.size = G.size + 1 := by rw [hG]; rfl
    have hr := hE.ro
    clear hG
    refine callW_of (Each2_ok G1 (by omega) _ _ u0 u1 (TenV.mono hE ht0) (TenV.mono hE ht1) (by rw [(isT_spec ta).2.2, (isT_spec tb').2.2, hC]) (isT_bd ta) (isT_ne ta)) ?_
    rintro r H1 ⟨hot, hE1⟩
    obtain ⟨vu, wu, rfl, hu1, hu2, _⟩ := id hot
    obtain ⟨pu, cu, rfl⟩ := hu1.ints.inv
    obtain ⟨pw, cw, rfl⟩ := hu2.ints.inv
    have q0 := hE1.get _ _ g0
    have hr1 := hE1.ro
    have hs1 := hE1.size
    simp (disch := omega) only [go_sem, Nat.reduceEqDiff, Nat.reduceAdd, ↓reduceIte, get_pushB, get_putB, pickB_t, pickB_f, eqB_t, eqB_f, ltB_t, leB_t, AH.size_push, AH.size_put, AH.ro_push, AH.ro_put, q0]
    exact ⟨hot.out hE h0 (by omega) _, (hE.trans hE1).put (Nat.le_refl _) (by omega) _⟩
theorem sgl7_ok (H : AH) (h0 : H.ro ≤ H.size) (a : Ten) (va : Value) (ha : TenV H va a) (ta : isT a = true) (n : Int) (d : List Int) (vd : Value) (hdd : Ints H vd d) :
    Runs tb 39 [.int .i64 7, .int .i64 n, vd, va] H (DoPost H (a.1, a.2.map (fun x => IntKind.i64.wrap (x * -1))) 0) := by
  obtain ⟨ad, ax, rfl, had, hax⟩ := id ha
  obtain ⟨pa, ca, rfl⟩ := had.inv
  obtain ⟨qa, da, rfl⟩ := hax.inv
  refine Runs_fn (fn := Try.f39) [.cell 8 32, .tmp 9] [0, 1, 2, 3, 7, 8, 9, 10] [] 3000 (by kernel_rfl) rfl (by kernel_rfl) (by kernel_rfl) rfl ?_; simp only [pad, argAt]
  simp (disch := omega) only [go_sem, Nat.reduceEqDiff, Nat.reduceAdd, ↓reduceIte, get_pushB, get_putB, pickB_t, pickB_f, eqB_t, eqB_f, ltB_t, leB_t, AH.size_push, AH.size_put, AH.ro_push, AH.ro_put, Int.reduceEq, decide_true, decide_false]
  refine callW_gen ?_
  intro G hG
  have hE : Ext H G := by rw [hG]; exact (Ext.push _ _).pushed _
  have hr := hE.ro
  have hs := hE.size
  have hsz : G.size = H.size + 2 := by rw [hG]; rfl
  have g0 : G.get (H.size + 1) = some [.slice none 0 0, .slice none 0 0] := by rw [hG]; (try simp (disch := omega) only [get_pushB, get_putB, pickB_t, pickB_f, eqB_t, eqB_f, ltB_t, AH.size_push, AH.size_put, AH.ro_push, AH.ro_put])
  clear hG
  refine callW_of (Neg_ok G (by omega) a _ (TenV.mono hE ha) ta) ?_
  rintro r G4 ⟨u, rfl, hot, hE4⟩
  obtain ⟨vu, wu, rfl, hu1, hu2, _⟩ := id hot
  obtain ⟨pu, cu, rfl⟩ := hu1.ints.inv
  obtain ⟨pw, cw, rfl⟩ := hu2.ints.inv
  have q0 := hE4.get _ _ g0
  have hr4 := hE4.ro
  have hs4 := hE4.size
  simp (disch := omega) only [go_sem, Nat.reduceEqDiff, Nat.reduceAdd, ↓reduceIte, get_pushB, get_putB, pickB_t, pickB_f, eqB_t, eqB_f, ltB_t, leB_t, AH.size_push, AH.size_put, AH.ro_push, AH.ro_put, q0]
  exact ⟨_, rfl, hot.out hE h0 (by omega) _, (hE.trans hE4).put (by omega) (by omega) _⟩
theorem KindOk7 : KindOk 7 (fun n d l => (l.getD 0 ([], [])).2.map (fun x => IntKind.i64.wrap (x * -1))) where
  fill h := by omega
  two n d l h hl := by have := (doOk_form h).2.2.2.2; simp [manyP] at this; omega
  one n d l h hl G u vd h0 hd hu := by
    have hA := (doOk_form h).2.2.1
    have := sgl7_ok G h0 _ u hu (all_getD hA (by omega)) n d vd hd
    have e : doE (fun n d l => (l.getD 0 ([], [])).2.map (fun x => IntKind.i64.wrap (x * -1))) 7 n d l = (((l.getD 0 ([], [])).1, (l.getD 0 ([], [])).2.map (fun x => IntKind.i64.wrap (x * -1))), 0) := by
      simp only [doE, h, if_true, dimsP, map_getD]
      simp only [Int.reduceEq, or_self, or_false, or_true, false_or, if_true, if_false]
    rw [e]
    exact this
  ref n d l x h hx G vd vl h0 hd hl := by
    have hA := (doOk_form h).2.2.1
    have hm := (doOk_form h).2.2.2.2
    have hlen : l.length = 1 := by simp [manyP] at hm; omega
    have hx2 : x = (l.getD 0 ([], [])).1 := by
      simp only [dimsP, map_getD] at hx
      simp only [Int.reduceEq, or_self, or_false, or_true, false_or, if_true, if_false] at hx
      cases hx; rfl
    subst hx2
    obtain ⟨pl, cl, rfl⟩ := hl.inv
    have ta := all_getD hA (i := 0) (by omega)
    have hP := Ext.push G [.slice none 0 0, .slice none 0 0]
    have hlP := Tens.mono hP hl
    obtain ⟨u0, hu0, ht0⟩ := ldT0 hl (by omega)
    have hu0 := fun (H' : AH) (hE' : Ext G H') => aload_ext hE' hu0
    refine Runs_fn (fn := Try.f48) [.cell 8 32] [0, 1, 2, 3, 8, 9] [(19, [(5, 1)])] 3000 (by kernel_rfl) rfl (by kernel_rfl) (by kernel_rfl) rfl ?_; simp only [pad, argAt]
    simp (disch := omega) only [go_sem, Nat.reduceEqDiff, Nat.reduceAdd, ↓reduceIte, get_pushB, get_putB, pickB_t, pickB_f, eqB_t, eqB_f, ltB_t, leB_t, AH.size_push, AH.size_put, AH.ro_push, AH.ro_put, Int.reduceEq, decide_true, decide_false, ixT hlP, hu0 _ hP]
    refine callW_gen ?_
    intro G1 hG
    have hE : Ext G G1 := by rw [hG]; exact Ext.push _ _
    have g0 : G1.get G.size = some [.slice none 0 0, .slice none 0 0] := by rw [hG]; (try simp (disch := omega) only [get_pushB, get_putB, pickB_t, pickB_f, eqB_t, eqB_f, ltB_t, AH.size_push, AH.size_put, AH.ro_push, AH.ro_put])
    have hs : G1.size = G.size + 1 := by rw [hG]; rfl
    have hr := hE.ro
    clear hG
    refine callW_of (RefScale_ok G1 (by omega) _ (-1) u0 (TenV.mono hE ht0) (isT_bd ta) (isT_ne ta)) ?_
    rintro r H1 ⟨hot, hE1⟩
    obtain ⟨vu, wu, rfl, hu1, hu2, _⟩ := id hot
    obtain ⟨pu, cu, rfl⟩ := hu1.ints.inv
    obtain ⟨pw, cw, rfl⟩ := hu2.ints.inv
    have q0 := hE1.get _ _ g0
    have hr1 := hE1.ro
    have hs1 := hE1.size
    simp (disch := omega) only [go_sem, Nat.reduceEqDiff, Nat.reduceAdd, ↓reduceIte, get_pushB, get_putB, pickB_t, pickB_f, eqB_t, eqB_f, ltB_t, leB_t, AH.size_push, AH.size_put, AH.ro_push, AH.ro_put, q0]
    exact ⟨hot.out hE h0 (by omega) _, (hE.trans hE1).put (Nat.le_refl _) (by omega) _⟩
theorem sgl8_ok (H : AH) (h0 : H.ro ≤ H.size) (a : Ten) (va : Value) (ha : TenV H va a) (ta : isT a = true) (n : Int) (d : List Int) (vd : Value) (hdd : Ints H vd d) :
    Runs tb 39 [.int .i64 8, .int .i64 n, vd, va] H (DoPost H (a.1, a.2.map (fun x => IntKind.i64.wrap (x * n))) 0) := by
  obtain ⟨ad, ax, rfl, had, hax⟩ := id ha
  obtain ⟨pa, ca, rfl⟩ := had.inv
  obtain ⟨qa, da, rfl⟩ := hax.inv
  refine Runs_fn (fn := Try.f39) [.cell 8 32, .tmp 9] [0, 1, 2, 3, 7, 8, 9, 10] [] 3000 (by kernel_rfl) rfl (by kernel_rfl) (by kernel_rfl) rfl ?_; simp only [pad, argAt]
  simp (disch := omega) only [go_sem, Nat.reduceEqDiff, Nat.reduceAdd, ↓reduceIte, get_pushB, get_putB, pickB_t, pickB_f, eqB_t, eqB_f, ltB_t, leB_t, AH.size_push, AH.size_put, AH.ro_push, AH.ro_put, Int.reduceEq, decide_true, decide_false]
  refine callW_gen ?_
  intro G hG
  have hE : Ext H G := by rw [hG]; exact (Ext.push _ _).pushed _
  have hr := hE.ro
  have hs := hE.size
  have hsz : G.size = H.size + 2 := by rw [hG]; rfl
  have g0 : G.get (H.size + 1) = some [.slice none 0 0, .slice none 0 0] := by rw [hG]; (try simp (disch := omega) only [get_pushB, get_putB, pickB_t, pickB_f, eqB_t, eqB_f, ltB_t, AH.size_push, AH.size_put, AH.ro_push, AH.ro_put])
  clear hG
  refine callW_of (Scale_ok G (by omega) a n _ (TenV.mono hE ha) ta) ?_
  rintro r G4 ⟨u, rfl, hot, hE4⟩
  obtain ⟨vu, wu, rfl, hu1, hu2, _⟩ := id hot
  obtain ⟨pu, cu, rfl⟩ := hu1.ints.inv
  obtain ⟨pw, cw, rfl⟩ := hu2.ints.inv
  have q0 := hE4.get _ _ g0
  have hr4 := hE4.ro
  have hs4 := hE4.size
  simp (disch := omega) only [go_sem, Nat.reduceEqDiff, Nat.reduceAdd, ↓reduceIte, get_pushB, get_putB, pickB_t, pickB_f, eqB_t, eqB_f, ltB_t, leB_t, AH.size_push, AH.size_put, AH.ro_push, AH.ro_put, q0]
  exact ⟨_, rfl, hot.out hE h0 (by omega) _, (hE.trans hE4).put (by omega) (by omega) _⟩
theorem KindOk8 : KindOk 8 (fun n d l => (l.getD 0 ([], [])).2.map (fun x => IntKind.i64.wrap (x * n))) where
  fill h := by omega
  two n d l h hl := by have := (doOk_form h).2.2.2.2; simp [manyP] at this; omega
  one n d l h hl G u vd h0 hd hu := by
    have hA := (doOk_form h).2.2.1
    have := sgl8_ok G h0 _ u hu (all_getD hA (by omega)) n d vd hd
    have e : doE (fun n d l => (l.getD 0 ([], [])).2.map (fun x => IntKind.i64.wrap (x * n))) 8 n d l = (((l.getD 0 ([], [])).1, (l.getD 0 ([], [])).2.map (fun x => IntKind.i64.wrap (x * n))), 0) := by
      simp only [doE, h, if_true, dimsP, map_getD]
      simp only [Int.reduceEq, or_self, or_false, or_true, false_or, if_true, if_false]
    rw [e]
    exact this
  ref n d l x h hx G vd vl h0 hd hl := by
    have hA := (doOk_form h).2.2.1
    have hm := (doOk_form h).2.2.2.2
    have hlen : l.length = 1 := by simp [manyP] at hm; omega
    have hx2 : x = (l.getD 0 ([], [])).1 := by
      simp only [dimsP, map_getD] at hx
      simp only [Int.reduceEq, or_self, or_false, or_true, false_or, if_true, if_false] at hx
      cases hx; rfl
    subst hx2
    obtain ⟨pl, cl, rfl⟩ := hl.inv
    have ta := all_getD hA (i := 0) (by omega)
    have hP := Ext.push G [.slice none 0 0, .slice none 0 0]
    have hlP := Tens.mono hP hl
    obtain ⟨u0, hu0, ht0⟩ := ldT0 hl (by omega)
    have hu0 := fun (H' : AH) (hE' : Ext G H') => aload_ext hE' hu0
    refine Runs_fn (fn := Try.f48) [.cell 8 32] [0, 1, 2, 3, 8, 9] [(19, [(5, 1)])] 3000 (by kernel_rfl) rfl (by kernel_rfl) (by kernel_rfl) rfl ?_; simp only [pad, argAt]
    simp (disch := omega) only [go_sem, Nat.reduceEqDiff, Nat.reduceAdd, ↓reduceIte, get_pushB, get_putB, pickB_t, pickB_f, eqB_t, eqB_f, ltB_t, leB_t, AH.size_push, AH.size_put, AH.ro_push, AH.ro_put, Int.reduceEq, decide_true, decide_false, ixT hlP, hu0 _ hP]
    refine callW_gen ?_
    intro G1 hG
    have hE : Ext G G1 := by rw [hG]; exact Ext.push _ _
    have g0 : G1.get G.size = some [.slice none 0 0, .slice none 0 0] := by rw [hG]; (try simp (disch := omega) only [get_pushB, get_putB, pickB_t, pickB_f, eqB_t, eqB_f, ltB_t, AH.size_push, AH.size_put, AH.ro_push, AH.ro_put])
    have hs : G1.size = G.size + 1 := by rw [hG]; rfl
    have hr := hE.ro
    clear hG
    refine callW_of (RefScale_ok G1 (by omega) _ n u0 (TenV.mono hE ht0) (isT_bd ta) (isT_ne ta)) ?_
    rintro r H1 ⟨hot, hE1⟩
    obtain ⟨vu, wu, rfl, hu1, hu2, _⟩ := id hot
    obtain ⟨pu, cu, rfl⟩ := hu1.ints.inv
    obtain ⟨pw, cw, rfl⟩ := hu2.ints.inv
    have q0 := hE1.get _ _ g0
    have hr1 := hE1.ro
    have hs1 := hE1.size
    simp (disch := omega) only [go_sem, Nat.reduceEqDiff, Nat.reduceAdd, ↓reduceIte, get_pushB, get_putB, pickB_t, pickB_f, eqB_t, eqB_f, ltB_t, leB_t, AH.size_push, AH.size_put, AH.ro_push, AH.ro_put, q0]
    exact ⟨hot.out hE h0 (by omega) _, (hE.trans hE1).put (Nat.le_refl _) (by omega) _⟩
end Go.Proofs.K
