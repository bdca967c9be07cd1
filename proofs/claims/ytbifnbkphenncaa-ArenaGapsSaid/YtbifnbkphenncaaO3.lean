/- Arena: the law ArenaGaps. -/
import Derived.Test.YtbifnbkphenncaaP9
set_option linter.unusedVariables false
set_option maxRecDepth 8000
set_option maxHeartbeats 4000000
set_option linter.unusedSimpArgs false
namespace Go.Proofs.A
open Go Go.Ab
def gapsB : List Lf := [⟨0, 99, 1⟩, ⟨0, 2, 3⟩, ⟨0, 99, 1⟩, ⟨0, 2, 2⟩, ⟨0, 99, 1⟩, ⟨0, 2, 2⟩, ⟨0, 99, 1⟩, ⟨0, 2, 5⟩, ⟨0, 99, 1⟩]
def gapsL (j : Nat) : List Lf := gapsB ++ [⟨2, 3, (j : Int)⟩]
def gapsW : List Int := [0, 5, 5, 1, 11, 11, 17, 17]
theorem gaps_all : ∀ j : Nat, j < 8 → 1 ≤ j → mayL (gapsL j) = true ∧ (placeJ (gapsL j) 10)[9]! = gi gapsW j := by
  decide +kernel
theorem gaps_at (j : Nat) (h1 : 1 ≤ j) (h7 : j ≤ 7) : mayL (gapsL j) = true ∧ (placeL (gapsL j) 10)[9]! = gi gapsW j := by
  obtain ⟨hm, hp⟩ := gaps_all j (by omega) h1
  exact ⟨hm, by rw [placeJ_eq hm 10 (by simp [gapsL, gapsB])]; exact hp⟩
theorem bsL9 (a1 a2 a3 b1 b2 b3 c1 c2 c3 d1 d2 d3 e1 e2 e3 f1 f2 f3 g1 g2 g3 h1 h2 h3 i1 i2 i3 : Value) (id : Nat) : abuildSlice tb 22 9 [(0, .agg #[a1, a2, a3]), (1, .agg #[b1, b2, b3]), (2, .agg #[c1, c2, c3]), (3, .agg #[d1, d2, d3]), (4, .agg #[e1, e2, e3]), (5, .agg #[f1, f2, f3]), (6, .agg #[g1, g2, g3]), (7, .agg #[h1, h2, h3]), (8, .agg #[i1, i2, i3])] id = some (.slice (some ⟨id, 0, none⟩) 9 3, [a1, a2, a3, b1, b2, b3, c1, c2, c3, d1, d2, d3, e1, e2, e3, f1, f2, f3, g1, g2, g3, h1, h2, h3, i1, i2, i3]) := by kernel_rfl
theorem bsI8 (a b c d e f g h : Int) (id : Nat) : abuildSlice tb 23 8 [(0, .int .i64 a), (1, .int .i64 b), (2, .int .i64 c), (3, .int .i64 d), (4, .int .i64 e), (5, .int .i64 f), (6, .int .i64 g), (7, .int .i64 h)] id = some (.slice (some ⟨id, 0, none⟩) 8 1, [.int .i64 a, .int .i64 b, .int .i64 c, .int .i64 d, .int .i64 e, .int .i64 f, .int .i64 g, .int .i64 h]) := by kernel_rfl
theorem ArenaGaps_ok (H : AH) (h0 : H.ro ≤ H.size) (p : Ask) (vl vp : Value) (h : AskV H vl vp p) : Runs tb 4 [.agg #[vl, vp]] H (fun r _ => r = .bool true) := by
  obtain ⟨pl, cl, rfl⟩ := h.l.inv
  obtain ⟨pp, cp, rfl⟩ := h.p.inv
  have hbl := h.l.bd
  refine Runs_fn (fn := Try.f4) [.tmp 2] [0, 1, 2, 3, 4, 5, 6, 7] [] 3000 (by kernel_rfl) rfl (by kernel_rfl) (by kernel_rfl) rfl ?_; simp only [pad, argAt]
  simp (disch := omega) only [go_sem, Nat.reduceEqDiff, Nat.reduceAdd, ↓reduceIte, get_pushB, get_putB, pickB_t, pickB_f, eqB_t, eqB_f, ltB_t, leB_t, AH.size_push, AH.size_put, AH.ro_push, AH.ro_put, bdL, bsL9]
  refine Sat_gen ?_
  intro G hG
  have hgB : G.get H.size = some [Value.slice pl p.l.length cl, Value.slice pp p.p.length cp] := by
    rw [hG, AH.get_push, if_neg (by show ¬ H.size = H.size + 1; omega), AH.get_push, if_pos rfl]
  have hgl : G.get (H.size + 1) = some (flL gapsB) := by
    rw [hG, AH.get_push, if_pos (by rfl)]; rfl
  have hr0 : G.ro ≤ G.size := by rw [hG]; exact push_ok (push_ok h0 _) _
  have hroG : G.ro = H.ro := by rw [hG]; rfl
  clear hG
  refine Sat_loop 3000 (fun k K V => ∃ (j : Nat) (x5 x6 x7 : Value), 1 ≤ j ∧ j ≤ 8 ∧ k = 8 - j ∧ Ext G K ∧ V = [.agg #[.slice pl p.l.length cl, .slice pp p.p.length cp], .pointer (some ⟨H.size, 0, none⟩), .bool false, .slice (some ⟨H.size + 1, 0, none⟩) 9 3, .int .i64 j, x5, x6, x7]) 7 ⟨1, _, _, _, by omega, by omega, rfl, Ext.refl _, rfl⟩ ?_
  rintro k K V ⟨j, x5, x6, x7, hj1, hj, rfl, hE, rfl⟩ ih
  have hrK : K.ro ≤ K.size := by have := hE.ro; have := hE.size; omega
  have hgK := hE.get _ _ hgB
  have hlK := hE.get _ _ hgl
  simp (disch := omega) only [go_sem, Nat.reduceEqDiff, Nat.reduceAdd, ↓reduceIte, get_pushB, get_putB, pickB_t, pickB_f, eqB_t, eqB_f, ltB_t, leB_t, AH.size_push, AH.size_put, AH.ro_push, AH.ro_put]
  refine Split.mk (fun q1 => ?_) (fun q1 => ?_)
  · have hj7 : j ≤ 7 := by omega
    obtain ⟨hm, hw⟩ := gaps_at j hj1 hj7
    have hEa := Ext.push K ([] : List Value)
    have ho0 : OwnL K (K.push []) (.slice (some ⟨K.size, 0, none⟩) 0 3) [] := Own.mk K.size 0 [] (Nat.le_refl _) hrK rfl (by rw [AH.get_push, if_pos rfl]) rfl (by omega)
    obtain ⟨v1, K1, ea, ho1, hE1⟩ := OwnL.app ho0 hrK hEa (x := .slice (some ⟨H.size + 1, 0, none⟩) 9 3) (m := gapsB) rfl (afirst_block (hEa.get _ _ hlK) rfl) (by decide)
    have hEb := Ext.push K1 (flL [⟨2, 3, (j : Int)⟩])
    obtain ⟨v2, K2, eb, ho2, hE2⟩ := OwnL.app (ho1.ext hEb) hrK (hE1.trans hEb) (x := .slice (some ⟨K1.size, 0, none⟩) 1 3) (m := [⟨2, 3, (j : Int)⟩]) rfl (afirst_block (by rw [AH.get_push, if_pos rfl]) rfl) (by show (9 + 1) * 96 ≤ 140737488355328; omega)
    have eb' : aappend tb 22 22 v1 (.slice (some ⟨K1.size, 0, none⟩) 1 3) (K1.push [.int .i64 2, .int .i64 3, .int .i64 (j : Int)]) = some (v2, K2) := eb
    have hL : Lfs K2 v2 (gapsL j) := ho2.lfs
    have hr2 : K2.ro ≤ K2.size := by have := hE2.ro; have := hE2.size; omega
    simp (disch := omega) only [go_sem, Nat.reduceEqDiff, Nat.reduceAdd, ↓reduceIte, get_pushB, get_putB, pickB_t, pickB_f, eqB_t, eqB_f, ltB_t, leB_t, AH.size_push, AH.size_put, AH.ro_push, AH.ro_put, bslice_0 stL, ea, bdL, bsL1, eb']
    refine callW_of (Place_ok K2 hr2 _ _ hL) ?_
    rintro r K3 ⟨⟨y, rfl, hy⟩, hE3⟩
    have hr3 : K3.ro ≤ K3.size := by have := hE3.ro; have := hE3.size; omega
    have hy := hy.ints
    have hyl := placeL_len (gapsL j) 10
    simp only [hm, ↓reduceIte, show (gapsL j).length = 10 from rfl] at hy ⊢
    obtain ⟨py, hpy⟩ : ∃ ps, ps = placeL (gapsL j) 10 := ⟨_, rfl⟩
    rw [← hpy] at hy hyl hw
    obtain ⟨ya, yc, rfl⟩ := hy.inv
    rw [hyl] at hy ⊢
    have hEw := Ext.push K3 (gapsW.map (.int .i64))
    have hwI := (show OwnI K3 (K3.push (gapsW.map (.int .i64))) (.slice (some ⟨K3.size, 0, none⟩) 8 1) gapsW from Own.mk K3.size 8 _ (Nat.le_refl _) hr3 rfl (by rw [AH.get_push, if_pos rfl]) rfl (by omega)).ints
    have y1 := ixI hwI .i64 (j : Int) (by show 0 ≤ (j : Int) ∧ (j : Int) < 8; omega)
    have z1 := ldI hwI (j : Int) (by show 0 ≤ (j : Int) ∧ (j : Int) < 8; omega)
    have y2 := ixI hy .i64 9 (by omega)
    have z2 := ldI (hy.mono hEw) 9 (by omega)
    have e9 : gi py 9 = gi gapsW j := by
      rw [← hw, List.getElem!_eq_getElem?_getD]; rfl
    rw [e9] at z2
    have z1' : aload tb 3 (elp (some ⟨K3.size, 0, none⟩) 1 (j : Int) 0) (K3.push [.int .i64 0, .int .i64 5, .int .i64 5, .int .i64 1, .int .i64 11, .int .i64 11, .int .i64 17, .int .i64 17]).get = some (.int .i64 (gi gapsW j)) := z1
    have z2' : aload tb 3 (elp ya yc 9 0) (K3.push [.int .i64 0, .int .i64 5, .int .i64 5, .int .i64 1, .int .i64 11, .int .i64 11, .int .i64 17, .int .i64 17]).get = some (.int .i64 (gi gapsW j)) := z2
    simp (disch := omega) only [go_sem, Nat.reduceEqDiff, Nat.reduceAdd, ↓reduceIte, get_pushB, get_putB, pickB_t, pickB_f, eqB_t, eqB_f, ltB_t, leB_t, AH.size_push, AH.size_put, AH.ro_push, AH.ro_put, bsI8, y1, z1']
    refine callW_of (num_ok _ _) ?_
    rintro r K4 ⟨rfl, rfl⟩
    simp (disch := omega) only [go_sem, Nat.reduceEqDiff, Nat.reduceAdd, ↓reduceIte, get_pushB, get_putB, pickB_t, pickB_f, eqB_t, eqB_f, ltB_t, leB_t, AH.size_push, AH.size_put, AH.ro_push, AH.ro_put, y2, z2']
    refine ih _ _ _ ?_ ⟨j + 1, _, _, _, by omega, by omega, rfl, (((hE.trans hE2).trans hE3).trans hEw), by simp only [Int.natCast_add]; rfl⟩
    omega
  · simp (disch := omega) only [go_sem, Nat.reduceEqDiff, Nat.reduceAdd, ↓reduceIte, get_pushB, get_putB, pickB_t, pickB_f, eqB_t, eqB_f, ltB_t, leB_t, AH.size_push, AH.size_put, AH.ro_push, AH.ro_put, hgK]
    refine callW_of (wakes_ok _ hrK) ?_
    rintro r K1 ⟨rfl, hE7⟩
    simp (disch := omega) only [go_sem, Nat.reduceEqDiff, Nat.reduceAdd, ↓reduceIte, get_pushB, get_putB, pickB_t, pickB_f, eqB_t, eqB_f, ltB_t, leB_t, AH.size_push, AH.size_put, AH.ro_push, AH.ro_put]
end Go.Proofs.A
