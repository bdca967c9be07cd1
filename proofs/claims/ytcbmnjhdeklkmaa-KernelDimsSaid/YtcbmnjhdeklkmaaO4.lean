/- Other dims: shape. -/
import Derived.Test.YtcbmnjhdeklkmaaO3
set_option linter.unusedVariables false
set_option maxRecDepth 8000
set_option maxHeartbeats 4000000
set_option linter.unusedSimpArgs false
namespace Go.Proofs.K
open Go Go.Ab
theorem Shape_ok (H : AH) (h0 : H.ro ≤ H.size) (a : Ten) (va : Value) (ha : TenV H va a) (ta : isT a = true) (d : List Int) (vd : Value) (hdd : Ints H vd d) (md : mayP d = true) : Runs tb 73 [va, vd] H (DoPost H (if prodL d = prodL a.1 then (d, a.2) else ([], [])) (if prodL d = prodL a.1 then 0 else 4)) := by
  obtain ⟨ad, ax, rfl, had, hax⟩ := id ha
  obtain ⟨ma, lp, la⟩ := isT_spec ta
  have hal := (mayP_spec ma).2.1
  obtain ⟨pv, cv, rfl⟩ := hdd.inv
  have hdl := (mayP_spec md).2.1
  obtain ⟨pa, ca, rfl⟩ := had.inv
  obtain ⟨qa, da, rfl⟩ := hax.inv
  refine Runs_fn (fn := Try.f73) [.cell 4 32, .tmp 5] [0, 1, 2, 4, 5] [(5, [(3, 1)]), (3, [(3, 1)])] 3000 (by kernel_rfl) rfl (by kernel_rfl) (by kernel_rfl) rfl ?_; simp only [pad, argAt]
  simp (disch := omega) only [go_sem, Nat.reduceEqDiff, Nat.reduceAdd, ↓reduceIte, get_pushB, get_putB, pickB_t, pickB_f, eqB_t, eqB_f, ltB_t, leB_t, AH.size_push, AH.size_put, AH.ro_push, AH.ro_put]
  refine callW_gen ?_
  intro G hG
  have hE : Ext H G := by rw [hG]; exact (Ext.push _ _).pushed _
  have hr := hE.ro
  have hs := hE.size
  have ga : G.get H.size = some [.slice pa a.1.length ca, .slice qa a.2.length da] := by rw [hG]; (try simp (disch := omega) only [get_pushB, get_putB, pickB_t, pickB_f, eqB_t, eqB_f, ltB_t, AH.size_push, AH.size_put, AH.ro_push, AH.ro_put])
  have g0 : G.get (H.size + 1) = some [.slice none 0 0, .slice none 0 0] := by rw [hG]; (try simp (disch := omega) only [get_pushB, get_putB, pickB_t, pickB_f, eqB_t, eqB_f, ltB_t, AH.size_push, AH.size_put, AH.ro_push, AH.ro_put])
  have hsz : G.size = H.size + 2 := by rw [hG]; rfl
  clear hG
  refine callW_of (Is_ok G a _ (TenV.mono hE ha)) ?_
  rintro r G1 ⟨rfl, hE1⟩
  have hr1 := hE1.ro
  have hs1 := hE1.size
  have ga := hE1.get _ _ ga
  have g0 := hE1.get _ _ g0
  have hE := hE.trans hE1
  have had1 := Ints.mono hE had
  simp (disch := omega) only [go_sem, Nat.reduceEqDiff, Nat.reduceAdd, ↓reduceIte, get_pushB, get_putB, pickB_t, pickB_f, eqB_t, eqB_f, ltB_t, leB_t, AH.size_push, AH.size_put, AH.ro_push, AH.ro_put, ta]
  refine callW_of (May_ok G1 d _ (Ints.mono hE hdd)) ?_
  rintro r G1' ⟨rfl, rfl⟩
  simp (disch := omega) only [go_sem, Nat.reduceEqDiff, Nat.reduceAdd, ↓reduceIte, get_pushB, get_putB, pickB_t, pickB_f, eqB_t, eqB_f, ltB_t, leB_t, AH.size_push, AH.size_put, AH.ro_push, AH.ro_put, md]
  refine callW_of (Product_ok G1' d _ (Ints.mono hE hdd)) ?_
  rintro r G2 ⟨rfl, rfl⟩
  have b1 : aload tb 23 (.pointer (some ⟨H.size, 1, none⟩)) G2.get = some (.slice qa a.2.length da) := by simp (disch := omega) only [go_sem, Nat.reduceEqDiff, Nat.reduceAdd, ↓reduceIte, get_pushB, get_putB, pickB_t, pickB_f, eqB_t, eqB_f, ltB_t, leB_t, AH.size_push, AH.size_put, AH.ro_push, AH.ro_put, ga]
  simp (disch := omega) only [go_sem, Nat.reduceEqDiff, Nat.reduceAdd, ↓reduceIte, get_pushB, get_putB, pickB_t, pickB_f, eqB_t, eqB_f, ltB_t, leB_t, AH.size_push, AH.size_put, AH.ro_push, AH.ro_put, ga]
  refine ⟨⟨⟨Same.of b1 b1 (by simp [seqV, seq1]), Same.of b1 b1 (by simp [seqV, seq1])⟩, trivial⟩, ?_⟩
  refine Split.mk (fun h => ?_) (fun h => ?_)
  · rw [if_neg (fun e => h (by omega)), if_neg (fun e => h (by omega))]
    simp (disch := omega) only [go_sem, Nat.reduceEqDiff, Nat.reduceAdd, ↓reduceIte, get_pushB, get_putB, pickB_t, pickB_f, eqB_t, eqB_f, ltB_t, leB_t, AH.size_push, AH.size_put, AH.ro_push, AH.ro_put, ga, g0, abT0]
    exact ⟨_, rfl, OwnTD.none _ _, Ext.put hE (by omega) (by omega) _⟩
  · rw [if_pos (by omega), if_pos (by omega)]
    simp (disch := omega) only [go_sem, Nat.reduceEqDiff, Nat.reduceAdd, ↓reduceIte, get_pushB, get_putB, pickB_t, pickB_f, eqB_t, eqB_f, ltB_t, leB_t, AH.size_push, AH.size_put, AH.ro_push, AH.ro_put]
    refine callW_of (Clone_ok G2 (by omega) d _ (Ints.mono hE hdd) (by omega)) ?_
    rintro r G3 ⟨ho1, hE3⟩
    obtain ⟨p1, c1, rfl⟩ := ho1.ints.inv
    have hr3 := hE3.ro
    have hs3 := hE3.size
    have ga := hE3.get _ _ ga
    have g0 := hE3.get _ _ g0
    have b2 : aload tb 23 (.pointer (some ⟨H.size, 1, none⟩)) G3.get = some (.slice qa a.2.length da) := by simp (disch := omega) only [go_sem, Nat.reduceEqDiff, Nat.reduceAdd, ↓reduceIte, get_pushB, get_putB, pickB_t, pickB_f, eqB_t, eqB_f, ltB_t, leB_t, AH.size_push, AH.size_put, AH.ro_push, AH.ro_put, ga]
    simp (disch := omega) only [go_sem, Nat.reduceEqDiff, Nat.reduceAdd, ↓reduceIte, get_pushB, get_putB, pickB_t, pickB_f, eqB_t, eqB_f, ltB_t, leB_t, AH.size_push, AH.size_put, AH.ro_push, AH.ro_put, ga]
    refine ⟨⟨⟨Same.of b2 b1 (by simp [seqV, seq1]), Same.of b2 b2 (by simp [seqV, seq1])⟩, trivial⟩, ?_⟩
    refine callW_of (Clone_ok G3 (by omega) a.2 _ (Ints.mono (hE.trans hE3) hax) (by have := prodL_pos ma; omega)) ?_
    rintro r G4 ⟨ho2, hE4⟩
    obtain ⟨p2, c2, rfl⟩ := ho2.ints.inv
    have hr4 := hE4.ro
    have hs4 := hE4.size
    have g0 := hE4.get _ _ g0
    have hT : OwnTD G2 G4 (.agg #[.slice p1 d.length c1, .slice p2 a.2.length c2]) (d, a.2) := ⟨_, _, rfl, ho1.ext hE4, OwnI.weak ho2 hE3.size hE3.ro (by omega), fun p n k e q m j e2 e3 => by
      have h1 := (Own.blk ho1 p n k e).2
      have h2 := (Own.blk ho2 q m j e2).1
      omega⟩
    simp (disch := omega) only [go_sem, Nat.reduceEqDiff, Nat.reduceAdd, ↓reduceIte, get_pushB, get_putB, pickB_t, pickB_f, eqB_t, eqB_f, ltB_t, leB_t, AH.size_push, AH.size_put, AH.ro_push, AH.ro_put, abT, g0]
    exact ⟨_, rfl, hT.out hE h0 (by omega) _, Ext.put (hE.trans (hE3.trans hE4)) (by omega) (by omega) _⟩
theorem sgl11_ok (H : AH) (h0 : H.ro ≤ H.size) (a : Ten) (va : Value) (ha : TenV H va a) (ta : isT a = true) (n : Int) (d : List Int) (vd : Value) (hdd : Ints H vd d) (md : mayP d = true) :
    Runs tb 39 [.int .i64 11, .int .i64 n, vd, va] H (DoPost H (if prodL d = prodL a.1 then (d, a.2) else ([], [])) (if prodL d = prodL a.1 then 0 else 4)) := by
  obtain ⟨ad, ax, rfl, had, hax⟩ := id ha
  obtain ⟨pa, ca, rfl⟩ := had.inv
  obtain ⟨qa, da, rfl⟩ := hax.inv
  refine Runs_fn (fn := Try.f39) [.cell 8 32, .tmp 9] [0, 1, 2, 3, 7, 8, 9, 10] [] 3000 (by kernel_rfl) rfl (by kernel_rfl) (by kernel_rfl) rfl ?_; simp only [pad, argAt]
  simp (disch := omega) only [go_sem, Nat.reduceEqDiff, Nat.reduceAdd, ↓reduceIte, get_pushB, get_putB, pickB_t, pickB_f, eqB_t, eqB_f, ltB_t, leB_t, AH.size_push, AH.size_put, AH.ro_push, AH.ro_put, Int.reduceEq, decide_true, decide_false]
  refine callW_gen ?_
  intro G hG
  have hE : Ext H G := by rw [hG]; exact (Ext.push _ _).pushed _
  have hr := hE.ro
  have hs := hE.size
  have hsz : G.size = H.size + 2 := by rw [hG]; rfl
  have g0 : G.get (H.size + 1) = some [.slice none 0 0, .slice none 0 0] := by rw [hG]; (try simp (disch := omega) only [get_pushB, get_putB, pickB_t, pickB_f, eqB_t, eqB_f, ltB_t, AH.size_push, AH.size_put, AH.ro_push, AH.ro_put])
  clear hG
  refine callW_of (Shape_ok G (by omega) a _ (TenV.mono hE ha) ta d _ (Ints.mono hE hdd) md) ?_
  rintro r G4 ⟨u, rfl, hot, hE4⟩
  obtain ⟨vu, wu, rfl, hu1, hu2, _⟩ := id hot
  obtain ⟨pu, cu, rfl⟩ := hu1.ints.inv
  obtain ⟨pw, cw, rfl⟩ := hu2.ints.inv
  have q0 := hE4.get _ _ g0
  have hr4 := hE4.ro
  have hs4 := hE4.size
  simp (disch := omega) only [go_sem, Nat.reduceEqDiff, Nat.reduceAdd, ↓reduceIte, get_pushB, get_putB, pickB_t, pickB_f, eqB_t, eqB_f, ltB_t, leB_t, AH.size_push, AH.size_put, AH.ro_push, AH.ro_put, q0]
  exact ⟨_, rfl, hot.out hE h0 (by omega) _, (hE.trans hE4).put (by omega) (by omega) _⟩
theorem KindOk11 : KindOk 11 (fun n d l => (l.getD 0 ([], [])).2) where
  fill h := by omega
  two n d l h hl := by have := (doOk_form h).2.2.2.2; simp [manyP] at this; omega
  one n d l h hl G u vd h0 hd hu := by
    have hA := (doOk_form h).2.2.1
    have md : mayP d = true := by simpa [namedP] using (formP_spec (doOk_form h).2.2.2.1).2.2.2.2
    have := sgl11_ok G h0 _ u hu (all_getD hA (by omega)) n d vd hd md
    have e : doE (fun n d l => (l.getD 0 ([], [])).2) 11 n d l = (if prodL d = prodL (l.getD 0 ([], [])).1 then ((d, (l.getD 0 ([], [])).2), 0) else (([], []), 4)) := by
      simp only [doE, h, if_true, dimsP, map_getD]
      simp only [Int.reduceEq, or_self, or_false, or_true, false_or, if_true, if_false]
      by_cases hC : prodL d = prodL (l.getD 0 ([], [])).1
      · simp only [if_pos hC]
      · simp only [if_neg hC]
    rw [e]
    split
    · rename_i hc; simp only [if_pos hc] at this; exact this
    · rename_i hc; simp only [if_neg hc] at this; exact this
  ref n d l x h hx G vd vl h0 hd hl := by
    have hA := (doOk_form h).2.2.1
    have hm := (doOk_form h).2.2.2.2
    have hlen : l.length = 1 := by simp [manyP] at hm; omega
    have md : mayP d = true := by simpa [namedP] using (formP_spec (doOk_form h).2.2.2.1).2.2.2.2
    have hx2 : (prodL d = prodL (l.getD 0 ([], [])).1) ∧ x = d := by
      simp only [dimsP, map_getD] at hx
      simp only [Int.reduceEq, or_self, or_false, or_true, false_or, if_true, if_false] at hx
      split at hx
      · rename_i hc; cases hx; exact ⟨hc, rfl⟩
      · cases hx
    obtain ⟨hC, rfl⟩ := hx2
    obtain ⟨pl, cl, rfl⟩ := hl.inv
    have ta := all_getD hA (i := 0) (by omega)
    have hd0 := hd
    obtain ⟨pv, cv, rfl⟩ := hd.inv
    obtain ⟨vd0, vx0, e0, e1, hi0, hi1⟩ := ldT2 hl 0 (by omega)
    have f1 := (faT hl 0 (by omega)).2
    have hA0 : (l.getD 0 ([], [])) = l[0]'(by omega) := by simp [List.getD_eq_getElem?_getD, hlen]
    obtain ⟨px, cx, rfl⟩ := hi1.inv
    have e1 : aload tb 23 (elp pl cl (0 : Int) 1) G.get = _ := e1
    have f1 : afield tb 32 (elp pl cl (0 : Int) 0) 1 = _ := f1
    refine Runs_fn (fn := Try.f48) [.cell 8 32] [0, 1, 2, 3, 8, 9] [(19, [(5, 1)])] 3000 (by kernel_rfl) rfl (by kernel_rfl) (by kernel_rfl) rfl ?_; simp only [pad, argAt]
    simp (disch := omega) only [go_sem, Nat.reduceEqDiff, Nat.reduceAdd, ↓reduceIte, get_pushB, get_putB, pickB_t, pickB_f, eqB_t, eqB_f, ltB_t, leB_t, AH.size_push, AH.size_put, AH.ro_push, AH.ro_put, Int.reduceEq, decide_true, decide_false]
    refine callW_gen ?_
    intro G1 hG
    have hE : Ext G G1 := by rw [hG]; exact Ext.push _ _
    have g0 : G1.get G.size = some [.slice none 0 0, .slice none 0 0] := by rw [hG]; (try simp (disch := omega) only [get_pushB, get_putB, pickB_t, pickB_f, eqB_t, eqB_f, ltB_t, AH.size_push, AH.size_put, AH.ro_push, AH.ro_put])
    have hs : G1.size = G.size + 1 := by rw [hG]; rfl
    have hr := hE.ro
    have hlG := Tens.mono hE hl
    have e1G := aload_ext hE e1
    rw [← hG]
    clear hG
    refine callW_of (CopyNumbers_ok G1 (by omega) _ _ (Ints.mono hE hd0) (by have := (mayP_spec md).2.1; omega)) ?_
    rintro r G2 ⟨ho1, hE2⟩
    obtain ⟨p1, c1, rfl⟩ := ho1.ints.inv
    have hr2 := hE2.ro
    have hs2 := hE2.size
    have e1H := aload_ext hE2 e1G
    have g0 := hE2.get _ _ g0
    simp (disch := omega) only [go_sem, Nat.reduceEqDiff, Nat.reduceAdd, ↓reduceIte, get_pushB, get_putB, pickB_t, pickB_f, eqB_t, eqB_f, ltB_t, leB_t, AH.size_push, AH.size_put, AH.ro_push, AH.ro_put, ixT (Tens.mono hE2 hlG), f1, e1H, ixT hlG, e1G]
    refine ⟨⟨⟨Same.of e1H e1G (by simp [seqV, seq1]), Same.of e1H e1H (by simp [seqV, seq1])⟩, trivial⟩, ?_⟩
    have tl := isT_bd ta
    rw [hA0] at tl
    refine callW_of (CopyNumbers_ok G2 (by omega) _ _ (Ints.mono (hE.trans hE2) hi1) tl.2) ?_
    rintro r G3 ⟨ho2, hE3⟩
    obtain ⟨p2, c2, rfl⟩ := ho2.ints.inv
    have hr3 := hE3.ro
    have hs3 := hE3.size
    have g0 := hE3.get _ _ g0
    rw [hA0]
    have hT : OwnTD G1 G3 (.agg #[.slice p1 _ c1, .slice p2 _ c2]) (_, _) := ⟨_, _, rfl, ho1.ext hE3, OwnI.weak ho2 hE2.size hE2.ro (by omega), fun p n k e q m j e2 e3 => by
      have h1 := (Own.blk ho1 p n k e).2
      have h2 := (Own.blk ho2 q m j e2).1
      omega⟩
    simp (disch := omega) only [go_sem, Nat.reduceEqDiff, Nat.reduceAdd, ↓reduceIte, get_pushB, get_putB, pickB_t, pickB_f, eqB_t, eqB_f, ltB_t, leB_t, AH.size_push, AH.size_put, AH.ro_push, AH.ro_put, abT, g0]
    exact ⟨hT.out hE h0 (by omega) _, Ext.put (hE.trans (hE2.trans hE3)) (by omega) (by omega) _⟩
end Go.Proofs.K
