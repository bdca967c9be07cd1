/- Arena: the law ArenaRows. -/
import Derived.Test.YtbifnbkphenncaaP9
set_option linter.unusedVariables false
set_option maxRecDepth 8000
set_option maxHeartbeats 4000000
set_option linter.unusedSimpArgs false
namespace Go.Proofs.A
open Go Go.Ab
/-- Two slices in different blocks. -/
def Dis (v w : Value) : Prop := ∀ b n k, w = .slice (some b) n k → Off b.block v
theorem Dis.symm {v w : Value} (h : Dis v w) : Dis w v := fun a n k e b m l e2 => (h b m l e2 a n k e).symm
theorem Dis.nil (w : Value) : Dis (.slice none 0 0) w := fun b n k e a m l h => by cases h
theorem OwnL.app2 {H0 H : AH} {v x w : Value} {l m : List Lf} {sz n : Nat} {xs : List Value} (h : OwnL H0 H v l) (g : Own H0 H sz w n xs) (hd : Dis v w) (h0 : H0.ro ≤ H0.size) (hE : Ext H0 H) (hx : alenOf x = some m.length) (hy : afirst 3 m.length x H = some (flL m)) (hb : (l.length + m.length) * 96 ≤ 140737488355328) :
    ∃ v' H', aappend tb 22 22 v x H = some (v', H') ∧ OwnL H0 H' v' (l ++ m) ∧ Ext H0 H' ∧ Own H0 H' sz w n xs ∧ Dis v' w := by
  obtain ⟨v', H', e, ho, hE', hs, hr, hk, hn⟩ := Own.append_off stL h h0 hE hx hy (flL_len m) hb
  refine ⟨v', H', e, by unfold OwnL flL; rw [List.length_append, List.flatMap_append]; exact ho, hE', Own.keep g hr hk hd, fun b n k e => hn _ (g.blk b n k e).2 (hd b n k e)⟩
theorem sumR_bd (q n : Nat) (j : Nat) (hj : j ≤ n) : 0 ≤ sumS (besL q n n) j ∧ sumS (besL q n n) j ≤ 9 * j := by
  induction j with
  | zero => simp [sumS]
  | succ j ih =>
    have ih := ih (by omega)
    have := sizeR_bd q j
    rw [sumS, besL_at q n n j (by omega)]
    simp only []
    omega
theorem ArenaRows_ok (H : AH) (h0 : H.ro ≤ H.size) (p : Ask) (vl vp : Value) (h : AskV H vl vp p) : Runs tb 3 [.agg #[vl, vp]] H (fun r _ => r = .bool true) := by
  obtain ⟨pl, cl, rfl⟩ := h.l.inv
  obtain ⟨pp, cp, rfl⟩ := h.p.inv
  have hbl := h.l.bd
  have hbp := h.p.bd
  refine Runs_fn (fn := Try.f3) [.tmp 2] [0, 1, 2, 3, 4, 5, 6, 7, 8, 9, 10, 11, 12, 13] [] 3000 (by kernel_rfl) rfl (by kernel_rfl) (by kernel_rfl) rfl ?_; simp only [pad, argAt]
  simp (disch := omega) only [go_sem, Nat.reduceEqDiff, Nat.reduceAdd, ↓reduceIte, get_pushB, get_putB, pickB_t, pickB_f, eqB_t, eqB_f, ltB_t, leB_t, AH.size_push, AH.size_put, AH.ro_push, AH.ro_put]
  refine ⟨by decide, ?_⟩
  have e1 : IntKind.i64.wrap (1 + (p.l.length : Int).tmod 40) = ((1 + p.l.length % 40 : Nat) : Int) := by
    rw [Int.tmod_eq_emod_of_nonneg (by omega)]
    simp (disch := omega) only [IntWalk.i64_in]
    omega
  rw [e1]
  obtain ⟨n, hn⟩ : ∃ n, n = 1 + p.l.length % 40 := ⟨_, rfl⟩
  rw [← hn]
  obtain ⟨q, hq⟩ : ∃ q, q = p.p.length := ⟨_, rfl⟩
  rw [← hq] at hbp ⊢
  have hgB : (H.push [Value.slice pl p.l.length cl, Value.slice pp q cp]).get H.size = some [Value.slice pl p.l.length cl, Value.slice pp q cp] := by rw [AH.get_push, if_pos rfl]
  have hr0 := push_ok h0 [Value.slice pl p.l.length cl, Value.slice pp q cp]
  have hsB : H.size < (H.push [Value.slice pl p.l.length cl, Value.slice pp q cp]).size := AH.lt_of_get hgB
  generalize (H.push [Value.slice pl p.l.length cl, Value.slice pp q cp]) = G at *
  refine Sat_loop 3000 (fun k K V => ∃ (i : Nat) (vr vb x8 : Value), i ≤ n ∧ k = n - i ∧ Ext G K ∧ OwnL G K vr (rowL q i) ∧ OwnL G K vb (besL q n i) ∧ Dis vr vb ∧ V = [.agg #[.slice pl p.l.length cl, .slice pp q cp], .pointer (some ⟨H.size, 0, none⟩), .bool false, .int .i64 n, vr, vb, .int .i64 0, .int .i64 i, x8, undef, undef, undef, undef, undef]) n ⟨0, _, _, _, by omega, rfl, Ext.refl _, OwnL.nil _ _, OwnL.nil _ _, Dis.nil _, rfl⟩ ?_
  rintro k K V ⟨i, vr, vb, x8, hi, rfl, hE, hvr, hvb, hd, rfl⟩ ih
  have hrK : K.ro ≤ K.size := by have := hE.ro; have := hE.size; omega
  have hgK := hE.get _ _ hgB
  simp (disch := omega) only [go_sem, Nat.reduceEqDiff, Nat.reduceAdd, ↓reduceIte, get_pushB, get_putB, pickB_t, pickB_f, eqB_t, eqB_f, ltB_t, leB_t, AH.size_push, AH.size_put, AH.ro_push, AH.ro_put]
  refine Split.mk (fun h1 => ?_) (fun h1 => ?_)
  · have hlt : i < n := by omega
    have e2 : IntKind.i64.wrap (1 + ((i : Int) * 7 + q).tmod 9) = sizeR q i := by
      unfold sizeR
      rw [Int.tmod_eq_emod_of_nonneg (by omega)]
      simp (disch := omega) only [IntWalk.i64_in]
    simp (disch := omega) only [go_sem, Nat.reduceEqDiff, Nat.reduceAdd, ↓reduceIte, get_pushB, get_putB, pickB_t, pickB_f, eqB_t, eqB_f, ltB_t, leB_t, AH.size_push, AH.size_put, AH.ro_push, AH.ro_put, hgK, e2]
    refine ⟨by decide, ?_⟩
    have hEa := Ext.push K (flL [⟨(i : Int), (i : Int) + 1, sizeR q i⟩])
    obtain ⟨vr', K1, ea, hvr1, hE1, hvb1, hd1⟩ := OwnL.app2 (hvr.ext hEa) (Own.ext hvb hEa) hd hr0 (hE.trans hEa) (x := .slice (some ⟨K.size, 0, none⟩) 1 3) (m := [⟨(i : Int), (i : Int) + 1, sizeR q i⟩]) rfl (afirst_block (by rw [AH.get_push, if_pos rfl]) rfl) (by simp [rowL_len]; try omega)
    have ea' : aappend tb 22 22 vr (.slice (some ⟨K.size, 0, none⟩) 1 3) (K.push [.int .i64 (i : Int), .int .i64 ((i : Int) + 1), .int .i64 (sizeR q i)]) = some (vr', K1) := ea
    have hEb := Ext.push K1 (flL [⟨(i : Int), (n : Int) + 1, sizeR q i⟩])
    obtain ⟨vb', K2, eb, hvb2, hE2, hvr2, hd2⟩ := OwnL.app2 (OwnL.ext hvb1 hEb) (Own.ext hvr1 hEb) hd1.symm hr0 (hE1.trans hEb) (x := .slice (some ⟨K1.size, 0, none⟩) 1 3) (m := [⟨(i : Int), (n : Int) + 1, sizeR q i⟩]) rfl (afirst_block (by rw [AH.get_push, if_pos rfl]) rfl) (by simp [besL_len]; try omega)
    have eb' : aappend tb 22 22 vb (.slice (some ⟨K1.size, 0, none⟩) 1 3) (K1.push [.int .i64 (i : Int), .int .i64 ((n : Int) + 1), .int .i64 (sizeR q i)]) = some (vb', K2) := eb
    simp (disch := omega) only [go_sem, Nat.reduceEqDiff, Nat.reduceAdd, ↓reduceIte, get_pushB, get_putB, pickB_t, pickB_f, eqB_t, eqB_f, ltB_t, leB_t, AH.size_push, AH.size_put, AH.ro_push, AH.ro_put, bdL, bsL1, ea', eb']
    refine ih _ _ _ ?_ ⟨i + 1, vr', vb', _, by omega, rfl, hE2, by rw [rowL_succ]; exact hvr2, by rw [besL_succ]; exact hvb2, hd2.symm, by simp only [Int.natCast_add]; rfl⟩
    omega
  · obtain rfl : i = n := by omega
    simp (disch := omega) only [go_sem, Nat.reduceEqDiff, Nat.reduceAdd, ↓reduceIte, get_pushB, get_putB, pickB_t, pickB_f, eqB_t, eqB_f, ltB_t, leB_t, AH.size_push, AH.size_put, AH.ro_push, AH.ro_put]
    have hL1 := hvr.lfs
    have hL2 := hvb.lfs
    refine callW_of (Place_ok K hrK _ _ hL1) ?_
    rintro r K1 ⟨⟨x, rfl, hx⟩, hE1⟩
    rw [rowL_may q i (by omega)] at hx ⊢
    simp only [if_true] at hx ⊢
    simp (disch := omega) only [go_sem, Nat.reduceEqDiff, Nat.reduceAdd, ↓reduceIte, get_pushB, get_putB, pickB_t, pickB_f, eqB_t, eqB_f, ltB_t, leB_t, AH.size_push, AH.size_put, AH.ro_push, AH.ro_put]
    refine callW_of (Place_ok K1 (by have := hE1.ro; have := hE1.size; omega) _ _ (hL2.ext hE1)) ?_
    rintro r K2 ⟨⟨y, rfl, hy⟩, hE2⟩
    rw [besL_may q i i (by omega) (by omega)] at hy ⊢
    simp only [if_true] at hy ⊢
    rw [rowL_len] at hx
    rw [besL_len] at hy
    have hx := (hx.ext hE2).ints
    have hy := hy.ints
    obtain ⟨xa, xc, rfl⟩ := hx.inv
    obtain ⟨ya, yc, rfl⟩ := hy.inv
    obtain ⟨la, lc, rfl⟩ := hL2.inv
    have hxl := placeL_len (rowL q i) i
    have hyl := placeL_len (besL q i i) i
    have hxp := rowL_place q i i (Nat.le_refl _)
    have hyp := besL_place q i i (Nat.le_refl _) i (Nat.le_refl _)
    have hll := besL_len q i i
    obtain ⟨px, hpx⟩ : ∃ ps, ps = placeL (rowL q i) i := ⟨_, rfl⟩
    obtain ⟨py, hpy⟩ : ∃ ps, ps = placeL (besL q i i) i := ⟨_, rfl⟩
    rw [← hpx] at hx hxl hxp ⊢
    rw [← hpy] at hy hyl hyp ⊢
    simp (disch := omega) only [go_sem, Nat.reduceEqDiff, Nat.reduceAdd, ↓reduceIte, get_pushB, get_putB, pickB_t, pickB_f, eqB_t, eqB_f, ltB_t, leB_t, AH.size_push, AH.size_put, AH.ro_push, AH.ro_put]
    refine callW_of (num_ok _ _) ?_
    rintro r G1 ⟨rfl, rfl⟩
    simp (disch := omega) only [go_sem, Nat.reduceEqDiff, Nat.reduceAdd, ↓reduceIte, get_pushB, get_putB, pickB_t, pickB_f, eqB_t, eqB_f, ltB_t, leB_t, AH.size_push, AH.size_put, AH.ro_push, AH.ro_put]
    refine callW_of (num_ok _ _) ?_
    rintro r G1 ⟨rfl, rfl⟩
    simp (disch := omega) only [go_sem, Nat.reduceEqDiff, Nat.reduceAdd, ↓reduceIte, get_pushB, get_putB, pickB_t, pickB_f, eqB_t, eqB_f, ltB_t, leB_t, AH.size_push, AH.size_put, AH.ro_push, AH.ro_put]
    refine Sat_loop 3000 (fun k K V => ∃ (j : Nat), j ≤ i ∧ k = i - j ∧ K = G1 ∧ V = [.agg #[.slice pl p.l.length cl, .slice pp q cp], .pointer (some ⟨H.size, 0, none⟩), .bool false, .int .i64 i, vr, .slice la (besL q i i).length lc, .int .i64 (sumS (besL q i i) j), .int .i64 i, x8, .slice xa px.length xc, .int .i64 0, .slice ya py.length yc, .int .i64 0, .int .i64 j]) i ⟨0, by omega, rfl, rfl, rfl⟩ ?_
    rintro k K' V ⟨j, hj, rfl, rfl, rfl⟩ ih2
    obtain ⟨hs1, hs2⟩ := sumR_bd q i j hj
    simp (disch := omega) only [go_sem, Nat.reduceEqDiff, Nat.reduceAdd, ↓reduceIte, get_pushB, get_putB, pickB_t, pickB_f, eqB_t, eqB_f, ltB_t, leB_t, AH.size_push, AH.size_put, AH.ro_push, AH.ro_put]
    refine Split.mk (fun h2 => ?_) (fun h2 => ?_)
    · have hlt : j < i := by omega
      have y1 := ixI hx .i64 (j : Int) (by omega)
      have z1 := ldI hx (j : Int) (by omega)
      have y2 := ixI hy .i64 (j : Int) (by omega)
      have z2 := ldI hy (j : Int) (by omega)
      have gx : gi px (j : Int) = 0 := by
        rw [← hxp j hlt, List.getElem!_eq_getElem?_getD]; simp [gi]
      have gy : gi py (j : Int) = sumS (besL q i i) j := by
        rw [hyp]; simp [gi, List.getD_eq_getElem?_getD, hlt]
      rw [gx] at z1
      rw [gy] at z2
      have hL3 := (hL2.ext hE1).ext hE2
      have y3 := ixL hL3 .i64 (j : Int) (by omega)
      have f3 := (faL hL3 (j : Int) (by omega)).2.2
      have z3 := (lfL hL3 (j : Int) (by omega)).2.2
      simp only [Int.toNat_natCast] at z3
      have hsz := sizeR_bd q j
      have esz : (besL q i i)[j]!.s = sizeR q j := by rw [besL_at q i i j hlt]
      rw [esz] at z3
      simp (disch := omega) only [go_sem, Nat.reduceEqDiff, Nat.reduceAdd, ↓reduceIte, get_pushB, get_putB, pickB_t, pickB_f, eqB_t, eqB_f, ltB_t, leB_t, AH.size_push, AH.size_put, AH.ro_push, AH.ro_put, y1, z1, y2, z2, y3, f3, z3]
      refine ih2 _ _ _ ?_ ⟨j + 1, by omega, rfl, rfl, by rw [sumS, esz]; simp only [Int.natCast_add]; rfl⟩
      omega
    · obtain rfl : j = i := by omega
      simp (disch := omega) only [go_sem, Nat.reduceEqDiff, Nat.reduceAdd, ↓reduceIte, get_pushB, get_putB, pickB_t, pickB_f, eqB_t, eqB_f, ltB_t, leB_t, AH.size_push, AH.size_put, AH.ro_push, AH.ro_put]
      refine callW_of (wakes_ok _ (by have := hE1.ro; have := hE1.size; have := hE2.ro; have := hE2.size; omega)) ?_
      rintro r G2 ⟨rfl, hE3⟩
      simp (disch := omega) only [go_sem, Nat.reduceEqDiff, Nat.reduceAdd, ↓reduceIte, get_pushB, get_putB, pickB_t, pickB_f, eqB_t, eqB_f, ltB_t, leB_t, AH.size_push, AH.size_put, AH.ro_push, AH.ro_put]
end Go.Proofs.A
