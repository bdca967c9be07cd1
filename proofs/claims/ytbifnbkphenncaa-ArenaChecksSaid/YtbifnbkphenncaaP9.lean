/- Arena: what the laws' argument stands for; small functions. -/
import Derived.Test.YtbifnbkphenncaaP5
set_option linter.unusedVariables false
set_option maxRecDepth 8000
set_option maxHeartbeats 4000000
set_option linter.unusedSimpArgs false
namespace Go.Proofs.A
open Go Go.Ab
section
variable {n : Nat} {H : AH} {f : Nat → Option Value} {d : Dt}
def lfD (d : Dt) : Lf := ⟨((d.toL[0]?).getD (Dt.b true)).toI, ((d.toL[1]?).getD (Dt.b true)).toI, ((d.toL[2]?).getD (Dt.b true)).toI⟩
theorem repLf (h : Rep tb (n + 2) 27 H f d) : LfR H f (lfD d) := by
  obtain ⟨x, hx, h0⟩ := rep_field ty27 rfl h 0 (ft := 3) (fo := 0) (by kernel_rfl)
  obtain ⟨y, hy, h1⟩ := rep_field ty27 rfl h 1 (ft := 3) (fo := 1) (by kernel_rfl)
  obtain ⟨z, hz, h2⟩ := rep_field ty27 rfl h 2 (ft := 3) (fo := 2) (by kernel_rfl)
  have e0 := (rep_int ty3 rfl h0).1
  have e1 := (rep_int ty3 rfl h1).1
  have e2 := (rep_int ty3 rfl h2).1
  refine ⟨?_, ?_, ?_⟩
  · simpa [lfD, hx] using e0
  · simpa [lfD, hy] using e1
  · simpa [lfD, hz] using e2
theorem repL (h : Rep tb (n + 3) 22 H f d) : ∃ v, f 0 = some v ∧ Lfs H v (d.toL.map lfD) := by
  obtain ⟨v, h1, _, h2⟩ := rep_slice ty22 rfl ty27 h
  exact ⟨v, h1, h2.conv lfD fun f x hx => repLf hx⟩
theorem repI (h : Rep tb (n + 2) 23 H f d) : ∃ v, f 0 = some v ∧ Ints H v d.ints := rep_ints ty23 rfl ty3 rfl rfl h
/-- The laws' argument: lives, places. -/
structure Ask where
  l : List Lf
  p : List Int
structure AskV (H : AH) (vl vp : Value) (a : Ask) : Prop where
  l : Lfs H vl a.l
  p : Ints H vp a.p
theorem AskV.mono {H H' : AH} {vl vp : Value} {a : Ask} (h : AskV H vl vp a) (hE : Ext H H') : AskV H' vl vp a := ⟨h.l.ext hE, h.p.mono hE⟩
theorem repAsk {xs : List Value} (hl : xs.length = 2) (h : Rep tb (n + 6) 25 H (fun k => xs[k]?) d) : ∃ vl vp a, xs = [vl, vp] ∧ AskV H vl vp a := by
  obtain ⟨r, _, hr⟩ := rep_field ty25 rfl h 0 (ft := 22) (fo := 0) (by kernel_rfl)
  obtain ⟨x, _, hx⟩ := rep_field ty25 rfl h 1 (ft := 23) (fo := 1) (by kernel_rfl)
  obtain ⟨vl, e1, i1⟩ := repL hr
  obtain ⟨vp, e2, i2⟩ := repI hx
  match xs, hl with
  | [a, b], _ =>
    simp at e1 e2
    subst e1; subst e2
    exact ⟨_, _, ⟨_, _⟩, rfl, ⟨i1, i2⟩⟩
end
/-! ### Small functions -/
theorem num_ok (H : AH) (e : Int) : Runs tb 9 [.int .i64 e] H (fun r H' => r = .int .i64 e ∧ H' = H) := by
  refine Runs_fn (fn := Try.f9) [.tmp 2] [0, 2] [] 3000 (by kernel_rfl) rfl (by kernel_rfl) (by kernel_rfl) rfl ?_; simp only [pad, argAt]
  simp (disch := omega) only [go_sem, Nat.reduceEqDiff, Nat.reduceAdd, ↓reduceIte, get_pushB, get_putB, pickB_t, pickB_f, eqB_t, eqB_f, ltB_t, leB_t, AH.size_push, AH.size_put, AH.ro_push, AH.ro_put]
theorem Num_ok (H : AH) (n m : Int) : Runs tb 23 [.int .i64 n, .int .i64 m] H (fun r H' => r = .bool (decide (0 ≤ n ∧ n ≤ m)) ∧ H' = H) := by
  refine Runs_fn (fn := Try.f23) [.tmp 4] [0, 1, 4] [] 3000 (by kernel_rfl) rfl (by kernel_rfl) (by kernel_rfl) rfl ?_; simp only [pad, argAt]
  simp (disch := omega) only [go_sem, Nat.reduceEqDiff, Nat.reduceAdd, ↓reduceIte, get_pushB, get_putB, pickB_t, pickB_f, eqB_t, eqB_f, ltB_t, leB_t, AH.size_push, AH.size_put, AH.ro_push, AH.ro_put]
  refine SplitG.mk (fun h1 => ?_) (fun h1 => ?_)
  · simp (disch := omega) only [go_sem, Nat.reduceEqDiff, Nat.reduceAdd, ↓reduceIte, get_pushB, get_putB, pickB_t, pickB_f, eqB_t, eqB_f, ltB_t, leB_t, AH.size_push, AH.size_put, AH.ro_push, AH.ro_put]
    refine ⟨?_, trivial⟩
    congr 1; rw [Bool.eq_iff_iff]; simp; omega
  · simp (disch := omega) only [go_sem, Nat.reduceEqDiff, Nat.reduceAdd, ↓reduceIte, get_pushB, get_putB, pickB_t, pickB_f, eqB_t, eqB_f, ltB_t, leB_t, AH.size_push, AH.size_put, AH.ro_push, AH.ro_put]
    refine ⟨?_, trivial⟩
    congr 1; rw [Bool.eq_iff_iff]; simp; omega
theorem Within_ok (H : AH) : Runs tb 25 [.int .i64 3, .int .i64 2] H (fun r H' => r = .int .i64 1 ∧ H' = H) := by
  refine Runs_fn (fn := Try.f25) [.tmp 4] [0, 1, 4] [] 3000 (by kernel_rfl) rfl (by kernel_rfl) (by kernel_rfl) rfl ?_; simp only [pad, argAt]
  simp (disch := omega) only [go_sem, Nat.reduceEqDiff, Nat.reduceAdd, ↓reduceIte, get_pushB, get_putB, pickB_t, pickB_f, eqB_t, eqB_f, ltB_t, leB_t, AH.size_push, AH.size_put, AH.ro_push, AH.ro_put]
  exact ⟨by decide, congrArg _ (by decide), trivial⟩
theorem push_ok {H : AH} (h : H.ro ≤ H.size) (x : Blk) : (H.push x).ro ≤ (H.push x).size := by
  show H.ro ≤ H.size + 1
  omega
theorem stL : STy tb 22 27 3 := ⟨_, _, ty22, rfl, ty27, rfl, by decide, rfl, by decide, by decide, fun h => absurd h (by decide), fun _ => rfl⟩
theorem bdL (f t s : Int) : abuild tb 27 [(0, .int .i64 f), (1, .int .i64 t), (2, .int .i64 s)] = some (.agg #[.int .i64 f, .int .i64 t, .int .i64 s]) := by kernel_rfl
theorem bsL2 (a b c d e f : Value) (id : Nat) : abuildSlice tb 22 2 [(0, .agg #[a, b, c]), (1, .agg #[d, e, f])] id = some (.slice (some ⟨id, 0, none⟩) 2 3, [a, b, c, d, e, f]) := by kernel_rfl
theorem bsL1 (a b c : Value) (id : Nat) : abuildSlice tb 22 1 [(0, .agg #[a, b, c])] id = some (.slice (some ⟨id, 0, none⟩) 1 3, [a, b, c]) := by kernel_rfl
/-- Lives that were made since. -/
def flL (l : List Lf) : List Value := l.flatMap fun x => [.int .i64 x.f, .int .i64 x.t, .int .i64 x.s]
theorem flL_len (l : List Lf) : (flL l).length = l.length * 3 := by
  induction l with
  | nil => rfl
  | cons x xs ih => unfold flL at ih ⊢; rw [List.flatMap_cons, List.length_append, ih]; simp; omega
theorem flL_at : ∀ (l : List Lf) (i : Nat) (x : Lf), l[i]? = some x → (flL l)[i * 3]? = some (.int .i64 x.f) ∧ (flL l)[i * 3 + 1]? = some (.int .i64 x.t) ∧ (flL l)[i * 3 + 2]? = some (.int .i64 x.s)
  | [], i, x, h => by simp at h
  | y :: ys, 0, x, h => by simp at h; subst h; simp [flL]
  | y :: ys, i + 1, x, h => by
    have := flL_at ys i x (by simpa using h)
    rw [show (i + 1) * 3 = i * 3 + 3 by omega]
    simpa [flL] using this
def OwnL (H0 H : AH) (v : Value) (l : List Lf) : Prop := Own H0 H 3 v l.length (flL l)
theorem OwnL.lfs {H0 H : AH} {v : Value} {l : List Lf} (h : OwnL H0 H v l) : Lfs H v l :=
  Own.sl h rfl fun i x hx => flL_at l i x hx
theorem OwnL.ext {H0 H H' : AH} {v : Value} {l : List Lf} (h : OwnL H0 H v l) (hE : Ext H H') : OwnL H0 H' v l := Own.ext h hE
theorem OwnL.nil (H0 H : AH) : OwnL H0 H (.slice none 0 0) [] := Own.nil
theorem OwnL.app {H0 H : AH} {v x : Value} {l m : List Lf} (h : OwnL H0 H v l) (h0 : H0.ro ≤ H0.size) (hE : Ext H0 H) (hx : alenOf x = some m.length) (hy : afirst 3 m.length x H = some (flL m)) (hb : (l.length + m.length) * 96 ≤ 140737488355328) :
    ∃ v' H', aappend tb 22 22 v x H = some (v', H') ∧ OwnL H0 H' v' (l ++ m) ∧ Ext H0 H' := by
  obtain ⟨v', H', e, ho, hE'⟩ := Own.append stL h h0 hE hx hy (flL_len m) hb
  exact ⟨v', H', e, by unfold OwnL flL; rw [List.length_append, List.flatMap_append]; exact ho, hE'⟩
/-- A fresh block of lives. -/
theorem OwnL.fresh {H0 H : AH} (h0 : H0.ro ≤ H0.size) (hE : Ext H0 H) (l : List Lf) (hn : l.length ≤ 1000000) : OwnL H0 (H.push (flL l)) (.slice (some ⟨H.size, 0, none⟩) l.length 3) l :=
  Own.mk H.size l.length (flL l) hE.size h0 hE.ro (by rw [AH.get_push, if_pos rfl]) (flL_len l) (by omega)
def wakeL : List Lf := [⟨0, 3, 2⟩, ⟨1, 3, 1⟩]
theorem wakes_ok (H : AH) (hr0 : H.ro ≤ H.size) : Runs tb 10 [] H (fun r H' => r = .bool true ∧ Ext H H') := by
  refine Runs_fn (fn := Try.f10) [.tmp 0] [0, 1, 2] [] 3000 (by kernel_rfl) rfl (by kernel_rfl) (by kernel_rfl) rfl ?_; simp only [pad, argAt]
  simp (disch := omega) only [go_sem, Nat.reduceEqDiff, Nat.reduceAdd, ↓reduceIte, get_pushB, get_putB, pickB_t, pickB_f, eqB_t, eqB_f, ltB_t, leB_t, AH.size_push, AH.size_put, AH.ro_push, AH.ro_put, bdL, bsL2]
  have hE1 := Ext.push H (flL wakeL)
  have hw := (OwnL.fresh hr0 (Ext.refl H) wakeL (by decide)).lfs
  refine callW_of (Place_ok _ (push_ok hr0 _) wakeL _ hw) ?_
  rintro r G ⟨⟨w, rfl, ho⟩, hE2⟩
  have hm : mayL wakeL = true := by decide
  have hp : placeL wakeL 2 = [0, 2] := by rw [placeJ_eq hm 2 (by decide)]; decide
  have hi := ho.ints
  rw [hm, if_pos rfl, show placeL wakeL wakeL.length = [0, 2] from hp] at hi
  have hEG := hE1.trans hE2
  obtain ⟨wa, wc, rfl⟩ := hi.inv
  simp (disch := omega) only [go_sem, Nat.reduceEqDiff, Nat.reduceAdd, ↓reduceIte, get_pushB, get_putB, pickB_t, pickB_f, eqB_t, eqB_f, ltB_t, leB_t, AH.size_push, AH.size_put, AH.ro_push, AH.ro_put, hm]
  refine callW_of (num_ok _ _) ?_
  rintro r G1 ⟨rfl, rfl⟩
  have hE3 := Ext.push G1 [.int .i64 0, .int .i64 2]
  have h2 := (show OwnI G1 (G1.push [.int .i64 0, .int .i64 2]) (.slice (some ⟨G1.size, 0, none⟩) 2 1) [0, 2] from Own.mk G1.size 2 _ (Nat.le_refl _) (by have := hEG.ro; have := hEG.size; omega) rfl (by rw [AH.get_push, if_pos rfl]; rfl) rfl (by omega)).ints
  simp (disch := omega) only [go_sem, Nat.reduceEqDiff, Nat.reduceAdd, ↓reduceIte, get_pushB, get_putB, pickB_t, pickB_f, eqB_t, eqB_f, ltB_t, leB_t, AH.size_push, AH.size_put, AH.ro_push, AH.ro_put, bslice_2 stI (.int .i64 0) (.int .i64 2) rfl rfl]
  refine callW_of (EqNumbers_ok _ _ _ _ _ (hi.mono hE3) h2) ?_
  rintro r G2 ⟨rfl, rfl⟩
  simp (disch := omega) only [go_sem, Nat.reduceEqDiff, Nat.reduceAdd, ↓reduceIte, get_pushB, get_putB, pickB_t, pickB_f, eqB_t, eqB_f, ltB_t, leB_t, AH.size_push, AH.size_put, AH.ro_push, AH.ro_put]
  exact hEG.trans hE3
end Go.Proofs.A
