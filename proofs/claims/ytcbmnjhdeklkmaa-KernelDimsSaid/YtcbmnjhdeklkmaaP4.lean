/- Parts of a proof about this program: contracts of its functions. -/
import Derived.Test.YtcbmnjhdeklkmaaP3
/- A tensor is written over. -/
set_option linter.unusedVariables false
set_option maxRecDepth 8000
set_option maxHeartbeats 4000000
set_option linter.unusedSimpArgs false
namespace Go.Proofs.K
open Go Go.Ab

theorem Rest.own {v w : Value} {H0 H H' : AH} {l : List Int} (h : Rest v H H') (ho : OwnI H0 H w l) (hd : ∀ a n k, w = .slice (some a) n k → Off a.block v) : OwnI H0 H' w l := Own.keep ho h.ro h.get hd
theorem SpoilT_ok (H0 H : AH) (h0 : H0.ro ≤ H0.size) (hE0 : Ext H0 H) (t : Ten) (v : Value) (h : OwnTD H0 H v t) : Runs tb 52 [v] H (fun r H' => r = .tuple #[] ∧ Ext H0 H') := by
  obtain ⟨vd, vx, rfl, hd, hx, hoff⟩ := h
  have hE := Ext.push H [vd, vx]
  have b0 := box0 H vd vx
  have b1 := box1 H vd vx
  have g0 : (H.push [vd, vx]).get H.size = some [vd, vx] := by (try simp (disch := omega) only [get_pushB, get_putB, pickB_t, pickB_f, eqB_t, eqB_f, ltB_t, AH.size_push, AH.size_put, AH.ro_push, AH.ro_put])
  generalize hG : H.push [vd, vx] = G at *
  have hd' := hd.ext hE
  have hx' := hx.ext hE
  refine Runs_fn (fn := Try.f52) [] [0, 1] [] 3000 (by kernel_rfl) rfl (by kernel_rfl) (by kernel_rfl) rfl ?_; simp only [pad, argAt]
  simp (disch := omega) only [go_sem, Nat.reduceEqDiff, Nat.reduceAdd, ↓reduceIte, get_pushB, get_putB, pickB_t, pickB_f, eqB_t, eqB_f, ltB_t, leB_t, AH.size_push, AH.size_put, AH.ro_push, AH.ro_put, hG, g0]
  refine callW_of (Spoil_ok H0 G t.1 vd hd') ?_
  rintro r G1 ⟨rfl, hR⟩
  have g1 := hR.get H.size _ (Own.off hd (Nat.le_refl _)) g0
  have hx1 : OwnI H0 G1 vx t.2 := hR.own hx' (fun a n k e m q j e2 => by
    intro e3
    exact hoff _ _ _ e2 _ _ _ e e3.symm)
  have hE1 : Ext H0 G1 := hR.ext (hE0.trans hE) (fun a n k e => (Own.blk hd a n k e).1)
  simp (disch := omega) only [go_sem, Nat.reduceEqDiff, Nat.reduceAdd, ↓reduceIte, get_pushB, get_putB, pickB_t, pickB_f, eqB_t, eqB_f, ltB_t, leB_t, AH.size_push, AH.size_put, AH.ro_push, AH.ro_put, g1]
  refine callW_of (Spoil_ok H0 G1 t.2 vx hx1) ?_
  rintro r G2 ⟨rfl, hR2⟩
  simp (disch := omega) only [go_sem, Nat.reduceEqDiff, Nat.reduceAdd, ↓reduceIte, get_pushB, get_putB, pickB_t, pickB_f, eqB_t, eqB_f, ltB_t, leB_t, AH.size_push, AH.size_put, AH.ro_push, AH.ro_put]
  exact hR2.ext hE1 (fun a n k e => (Own.blk hx a n k e).1)
end Go.Proofs.K

/- A node of a kind, of some tensors: what the program tells is what the document tells. -/
set_option linter.unusedVariables false
set_option maxRecDepth 8000
set_option maxHeartbeats 4000000
set_option linter.unusedSimpArgs false
namespace Go.Proofs.K
open Go Go.Ab

/-- What Do tells, by what a kind's numbers are. -/
def doE (val : Int → List Int → List Ten → List Int) (k n : Int) (d : List Int) (l : List Ten) : Ten × Int :=
  if doOk k n d l then (match dimsP k n d (l.map (·.1)) with | none => (([], []), 4) | some x => ((x, val n d l), 0)) else (([], []), 1)
/-- A kind's value, in the program and in the document. -/
structure KindOk (k : Int) (val : Int → List Int → List Ten → List Int) : Prop where
  fill : k = 3 → ∀ n d l, val n d l = List.replicate (prodL d).toNat n
  two : ∀ n d l, doOk k n d l = true → l.length = 2 → ∀ G u w, G.ro ≤ G.size → TenV G u (l.getD 0 ([], [])) → TenV G w (l.getD 1 ([], [])) → Runs tb 38 [.int .i64 k, .int .i64 n, u, w] G (DoPost G (doE val k n d l).1 (doE val k n d l).2)
  one : ∀ n d l, doOk k n d l = true → l.length = 1 → ∀ G u vd, G.ro ≤ G.size → Ints G vd d → TenV G u (l.getD 0 ([], [])) → Runs tb 39 [.int .i64 k, .int .i64 n, vd, u] G (DoPost G (doE val k n d l).1 (doE val k n d l).2)
  ref : ∀ n d l x, doOk k n d l = true → dimsP k n d (l.map (·.1)) = some x → ∀ G vd vl, G.ro ≤ G.size → Ints G vd d → Tens G vl l → Runs tb 48 [.int .i64 k, .int .i64 n, vd, vl] G (fun r G' => OwnTD G G' r (x, val n d l) ∧ Ext G G')

theorem DoK_ok {k : Int} {val : Int → List Int → List Ten → List Int} (hk : KindOk k val) (H : AH) (h0 : H.ro ≤ H.size) (n : Int) (d : List Int) (l : List Ten) (vd vl : Value) (hd : Ints H vd d) (hl : Tens H vl l) (hb : l.length ≤ 1000000000000) :
    Runs tb 25 [.int .i64 k, .int .i64 n, vd, vl] H (DoPost H (doE val k n d l).1 (doE val k n d l).2) := by
  refine Do_ok H h0 k n d l vd vl hd hl hb _ _ (fun h => ?_) (fun h h3 => ?_) (fun h _ h2 G u w hE hu hw => hk.two n d l h h2 G u w (by have := hE.ro; have := hE.size; omega) hu hw) (fun h _ h1 G u hE hu => hk.one n d l h h1 G u vd (by have := hE.ro; have := hE.size; omega) (Ints.mono hE hd) hu)
  · simp [doE, h]
  · subst h3
    have : dimsP 3 n d (l.map (·.1)) = some d := rfl
    simp [doE, h, this, hk.fill rfl]

theorem OwnTD.rest {G0 G4 G H' : AH} {u v : Value} {t : Ten} (hu : OwnTD G4 G u t) {x : Value} (h : Rest x G H') (hx : ∀ a n k, x = .slice (some a) n k → a.block < G4.size) : OwnTD G4 H' u t := by
  obtain ⟨vd, vx, e, h1, h2, h3⟩ := hu
  have off : ∀ (w : Value) (m : List Int), OwnI G4 G w m → ∀ a n k, w = .slice (some a) n k → Off a.block x := fun w m hw a n k e b q j e2 e3 => by
    have := (Own.blk hw a n k e).1
    have := hx b q j e2
    omega
  exact ⟨vd, vx, e, h.own h1 (off _ _ h1), h.own h2 (off _ _ h2), h3⟩
theorem OwnTD.ext {G H H' : AH} {u : Value} {t : Ten} (hu : OwnTD G H u t) (hE : Ext H H') : OwnTD G H' u t := by
  obtain ⟨vd, vx, e, h1, h2, h3⟩ := hu
  exact ⟨vd, vx, e, h1.ext hE, h2.ext hE, h3⟩
theorem OwnTD.weak {H0 G H : AH} {u : Value} {t : Ten} (hu : OwnTD G H u t) (hE : Ext H0 G) (h0 : H0.ro ≤ H0.size) : OwnTD H0 H u t := by
  obtain ⟨vd, vx, e, h1, h2, h3⟩ := hu
  exact ⟨vd, vx, e, OwnI.weak h1 hE.size hE.ro h0, OwnI.weak h2 hE.size hE.ro h0, h3⟩
theorem each_ok {k : Int} {val : Int → List Int → List Ten → List Int} (hk : KindOk k val) (H : AH) (h0 : H.ro ≤ H.size) (n : Int) (d : List Int) (l : List Ten) (vd vl : Value) (hd : Ints H vd d) (hl : Tens H vl l) (hb : l.length ≤ 1000000000000 ∧ ∀ t ∈ l, t.1.length ≤ 1000000000000 ∧ t.2.length ≤ 1000000000000) (hbd : d.length ≤ 1000000000000) :
    Runs tb 32 [.int .i64 k, .int .i64 n, vd, vl] H (fun r H' => r = .bool true ∧ Ext H H') := by
  obtain ⟨pl, cl, rfl⟩ := hl.inv
  obtain ⟨pd, cd, rfl⟩ := hd.inv
  refine Runs_fn (fn := Try.f32) [.tmp 8] [0, 1, 2, 3, 8, 9, 10, 11, 12, 13, 14, 15, 16, 17, 18, 19, 20, 21] [] 3000 (by kernel_rfl) rfl (by kernel_rfl) (by kernel_rfl) rfl ?_; simp only [pad, argAt]
  simp (disch := omega) only [go_sem, Nat.reduceEqDiff, Nat.reduceAdd, ↓reduceIte, get_pushB, get_putB, pickB_t, pickB_f, eqB_t, eqB_f, ltB_t, leB_t, AH.size_push, AH.size_put, AH.ro_push, AH.ro_put]
  refine callW_of (CopyTensors_ok H h0 l _ hl hb) ?_
  rintro r G1 ⟨hin, E1⟩
  obtain ⟨pi, ci, rfl⟩ := hin.inv
  have r1 := E1.ro
  have s1 := E1.size
  simp (disch := omega) only [go_sem, Nat.reduceEqDiff, Nat.reduceAdd, ↓reduceIte, get_pushB, get_putB, pickB_t, pickB_f, eqB_t, eqB_f, ltB_t, leB_t, AH.size_push, AH.size_put, AH.ro_push, AH.ro_put]
  refine callW_of (CopyNumbers_ok G1 (by omega) d _ (Ints.mono E1 hd) hbd) ?_
  rintro r G2 ⟨hdin, E2⟩
  have hdin := hdin.ints
  obtain ⟨pj, cj, rfl⟩ := hdin.inv
  have hin := Tens.mono E2 hin
  have F2 := E1.trans E2
  have r2 := F2.ro
  have s2 := F2.size
  simp (disch := omega) only [go_sem, Nat.reduceEqDiff, Nat.reduceAdd, ↓reduceIte, get_pushB, get_putB, pickB_t, pickB_f, eqB_t, eqB_f, ltB_t, leB_t, AH.size_push, AH.size_put, AH.ro_push, AH.ro_put]
  refine callW_of (DimsOf_ok G2 (by omega) l _ (Tens.mono F2 hl) hb.1) ?_
  rintro r G3 ⟨hds, E3⟩
  obtain ⟨ps, cs, rfl⟩ := hds.inv
  have hin := Tens.mono E3 hin
  have hdin := Ints.mono E3 hdin
  have F3 := F2.trans E3
  have r3 := F3.ro
  have s3 := F3.size
  simp (disch := omega) only [go_sem, Nat.reduceEqDiff, Nat.reduceAdd, ↓reduceIte, get_pushB, get_putB, pickB_t, pickB_f, eqB_t, eqB_f, ltB_t, leB_t, AH.size_push, AH.size_put, AH.ro_push, AH.ro_put]
  refine callW_of (Dims_ok G3 (by omega) k n d _ _ _ hdin hds) ?_
  rintro r G4 ⟨x, rfl, hx, E4⟩
  obtain ⟨px, cx, rfl⟩ := hx.ints.inv
  have hin4 := Tens.mono E4 hin
  have hdin4 := Ints.mono E4 hdin
  have F4 := F3.trans E4
  have r4 := F4.ro
  have s4 := F4.size
  simp (disch := omega) only [go_sem, Nat.reduceEqDiff, Nat.reduceAdd, ↓reduceIte, get_pushB, get_putB, pickB_t, pickB_f, eqB_t, eqB_f, ltB_t, leB_t, AH.size_push, AH.size_put, AH.ro_push, AH.ro_put]
  refine callW_of (DoK_ok hk G4 (by omega) n d l _ _ hdin4 hin4 hb.1) ?_
  rintro r G5 ⟨u, rfl, hu, E5⟩
  obtain ⟨ud, ux, rfl, hud, hux, huo⟩ := id hu
  obtain ⟨p1, c1, rfl⟩ := hud.ints.inv
  obtain ⟨p2, c2, rfl⟩ := hux.ints.inv
  have F5 := F4.trans E5
  have r5 := F5.ro
  have s5 := F5.size
  simp (disch := omega) only [go_sem, Nat.reduceEqDiff, Nat.reduceAdd, ↓reduceIte, get_pushB, get_putB, pickB_t, pickB_f, eqB_t, eqB_f, ltB_t, leB_t, AH.size_push, AH.size_put, AH.ro_push, AH.ro_put]
  refine callW_gen ?_
  intro G6 hG6
  have E6 : Ext G5 G6 := by rw [hG6]; exact ((Ext.push _ _).put (Nat.le_refl _) (by simp only [AH.size_push]; omega) _).pushed _
  have t6 : G6.get G5.size = some [.slice p1 (doE val k n d l).1.1.length c1, .slice p2 (doE val k n d l).1.2.length c2] := by rw [hG6]; (try simp (disch := omega) only [get_pushB, get_putB, pickB_t, pickB_f, eqB_t, eqB_f, ltB_t, AH.size_push, AH.size_put, AH.ro_push, AH.ro_put])
  have w6 : G6.get (G5.size + 1) = some [.slice none 0 0, .slice none 0 0] := by rw [hG6]; (try simp (disch := omega) only [get_pushB, get_putB, pickB_t, pickB_f, eqB_t, eqB_f, ltB_t, AH.size_push, AH.size_put, AH.ro_push, AH.ro_put])
  have z6 : G6.size = G5.size + 2 := by rw [hG6]; (try simp (disch := omega) only [get_pushB, get_putB, pickB_t, pickB_f, eqB_t, eqB_f, ltB_t, AH.size_push, AH.size_put, AH.ro_push, AH.ro_put])
  clear hG6
  have F6 := F5.trans E6
  have r6 := F6.ro
  have s6 := F6.size
  have hds6 := Intss.mono (E4.trans (E5.trans E6)) hds
  refine callW_of (RefMay_ok G6 k n d _ _ _ (Ints.mono F6 hd) hds6) ?_
  rintro r G6' ⟨rfl, rfl⟩
  simp (disch := omega) only [go_sem, Nat.reduceEqDiff, Nat.reduceAdd, ↓reduceIte, get_pushB, get_putB, pickB_t, pickB_f, eqB_t, eqB_f, ltB_t, leB_t, AH.size_push, AH.size_put, AH.ro_push, AH.ro_put]
  refine Split.mk (fun hf => ?_) (fun hf => ?_)
  · have hf : formP k n d (l.map (·.1)) = true := by simpa using hf
    simp (disch := omega) only [go_sem, Nat.reduceEqDiff, Nat.reduceAdd, ↓reduceIte, get_pushB, get_putB, pickB_t, pickB_f, eqB_t, eqB_f, ltB_t, leB_t, AH.size_push, AH.size_put, AH.ro_push, AH.ro_put]
    refine callW_of (Infer_ok G6' (by omega) k n d _ _ _ (Ints.mono F6 hd) hds6 hf) ?_
    rintro r G7 ⟨y, yl, rfl, hy, hyd, E7⟩
    obtain ⟨py, cy, rfl⟩ := hy.ints.inv
    have hyi := hy.ints
    have r7 := E7.ro
    have s7 := E7.size
    have t6 := E7.get _ _ t6
    have w6 := E7.get _ _ w6
    have E6 := E6.trans E7
    have F6 := F6.trans E7
    simp (disch := omega) only [go_sem, Nat.reduceEqDiff, Nat.reduceAdd, ↓reduceIte, get_pushB, get_putB, pickB_t, pickB_f, eqB_t, eqB_f, ltB_t, leB_t, AH.size_push, AH.size_put, AH.ro_push, AH.ro_put, t6, w6]
    cases hdp : dimsP k n d (l.map (·.1)) with
    | none =>
      have e1 : dimsE k n d (l.map (·.1)) = ([], 4) := by simp [dimsE, hf, hdp]
      rw [e1] at hx ⊢
      simp (disch := omega) only [go_sem, Nat.reduceEqDiff, Nat.reduceAdd, ↓reduceIte, get_pushB, get_putB, pickB_t, pickB_f, eqB_t, eqB_f, ltB_t, leB_t, AH.size_push, AH.size_put, AH.ro_push, AH.ro_put, Option.isSome_none]
      refine Split.mk (fun h => h.elim) (fun _ => ?_)
      simp (disch := omega) only [go_sem, Nat.reduceEqDiff, Nat.reduceAdd, ↓reduceIte, get_pushB, get_putB, pickB_t, pickB_f, eqB_t, eqB_f, ltB_t, leB_t, AH.size_push, AH.size_put, AH.ro_push, AH.ro_put]
      refine SplitG.mk (fun k1 => ?_) (fun k1 => ?_)
      · simp (disch := omega) only [go_sem, Nat.reduceEqDiff, Nat.reduceAdd, ↓reduceIte, get_pushB, get_putB, pickB_t, pickB_f, eqB_t, eqB_f, ltB_t, leB_t, AH.size_push, AH.size_put, AH.ro_push, AH.ro_put]
        refine SplitG.mk (fun k2 => ?_) (fun k2 => ?_)
        · simp (disch := omega) only [go_sem, Nat.reduceEqDiff, Nat.reduceAdd, ↓reduceIte, get_pushB, get_putB, pickB_t, pickB_f, eqB_t, eqB_f, ltB_t, leB_t, AH.size_push, AH.size_put, AH.ro_push, AH.ro_put]
          refine callW_of (RefTensors_ok G7 l _ (Tens.mono F6 hl)) ?_
          rintro r G8 ⟨rfl, E8⟩
          have t6 := E8.get _ _ t6
          have w6 := E8.get _ _ w6
          have E6 := E6.trans E8
          have F6 := F6.trans E8
          cases hT : l.all isT
          · have e2 : doE val k n d l = (([], []), 1) := by simp [doE, doOk, hT]
            rw [e2] at hu hud hux t6 ⊢
            simp (disch := omega) only [go_sem, Nat.reduceEqDiff, Nat.reduceAdd, ↓reduceIte, get_pushB, get_putB, pickB_t, pickB_f, eqB_t, eqB_f, ltB_t, leB_t, AH.size_push, AH.size_put, AH.ro_push, AH.ro_put]
            try (simp (disch := omega) only [go_sem, Nat.reduceEqDiff, Nat.reduceAdd, ↓reduceIte, get_pushB, get_putB, pickB_t, pickB_f, eqB_t, eqB_f, ltB_t, leB_t, AH.size_push, AH.size_put, AH.ro_push, AH.ro_put, t6, w6])
            refine callW_of (num_ok ..) ?_
            rintro r G7 ⟨rfl, rfl⟩
            simp (disch := omega) only [go_sem, Nat.reduceEqDiff, Nat.reduceAdd, ↓reduceIte, get_pushB, get_putB, pickB_t, pickB_f, eqB_t, eqB_f, ltB_t, leB_t, AH.size_push, AH.size_put, AH.ro_push, AH.ro_put, Int.reduceEq, decide_true, decide_false, ne_eq, not_true_eq_false, not_false_eq_true]
            refine callW_of (EqNumbers_ok G7 [] [] _ _ (Ints.mono (E5.trans E6) hx.ints) (Sl.nil _ _ _)) ?_
            rintro r G8 ⟨rfl, rfl⟩
            simp (disch := omega) only [go_sem, Nat.reduceEqDiff, Nat.reduceAdd, ↓reduceIte, get_pushB, get_putB, pickB_t, pickB_f, eqB_t, eqB_f, ltB_t, leB_t, AH.size_push, AH.size_put, AH.ro_push, AH.ro_put, decide_true]
            refine callW_of (num_ok ..) ?_
            rintro r G9 ⟨rfl, rfl⟩
            simp (disch := omega) only [go_sem, Nat.reduceEqDiff, Nat.reduceAdd, ↓reduceIte, get_pushB, get_putB, pickB_t, pickB_f, eqB_t, eqB_f, ltB_t, leB_t, AH.size_push, AH.size_put, AH.ro_push, AH.ro_put, t6, w6, Int.reduceEq, decide_true, decide_false, ne_eq, not_true_eq_false, not_false_eq_true]
            have hTt : TenV G9 _ ([], []) := TenV.mono E6 ⟨_, _, rfl, hud.ints, hux.ints⟩
            have hTd : TenV G9 _ ([], []) := ⟨_, _, rfl, Sl.nil _ _ _, Sl.nil _ _ _⟩
            refine callW_of (EqTensor_ok G9 _ _ _ _ hTt hTd) ?_
            rintro r H1 ⟨rfl, X1⟩
            have t7 := X1.get _ _ t6
            have Y1 := (E4.trans (E5.trans E6)).trans X1
            simp (disch := omega) only [go_sem, Nat.reduceEqDiff, Nat.reduceAdd, ↓reduceIte, get_pushB, get_putB, pickB_t, pickB_f, eqB_t, eqB_f, ltB_t, leB_t, AH.size_push, AH.size_put, AH.ro_push, AH.ro_put, decide_true]
            refine callW_of (EqTensors_ok H1 l l _ _ (Tens.mono Y1 hin) (Tens.mono (F3.trans Y1) hl)) ?_
            rintro r H2 ⟨rfl, X2⟩
            have t8 := X2.get _ _ t7
            have Y2 := Y1.trans X2
            simp (disch := omega) only [go_sem, Nat.reduceEqDiff, Nat.reduceAdd, ↓reduceIte, get_pushB, get_putB, pickB_t, pickB_f, eqB_t, eqB_f, ltB_t, leB_t, AH.size_push, AH.size_put, AH.ro_push, AH.ro_put, decide_true]
            refine callW_of (EqNumbers_ok H2 d d _ _ (Ints.mono Y2 hdin) (Ints.mono (F3.trans Y2) hd)) ?_
            rintro r H3 ⟨rfl, rfl⟩
            simp (disch := omega) only [go_sem, Nat.reduceEqDiff, Nat.reduceAdd, ↓reduceIte, get_pushB, get_putB, pickB_t, pickB_f, eqB_t, eqB_f, ltB_t, leB_t, AH.size_push, AH.size_put, AH.ro_push, AH.ro_put, decide_true]
            have Z := (E5.trans E6).trans (X1.trans X2)
            refine callW_of (Spoil_ok G3 H3 _ _ (hx.ext Z)) ?_
            rintro r H4 ⟨rfl, R⟩
            have t9 := R.get _ _ (Own.off hx (c := G5.size) E5.size) t8
            have Y4 : Ext G3 H4 := R.ext Y2 (fun a n k e => (Own.blk hx a n k e).1)
            have Z4 : Ext G3 G4 := E4
            have hu4 := (hu.ext (E6.trans (X1.trans X2))).rest (G0 := G4) (v := .nilIface) R (fun a n k e => (Own.blk hx a n k e).2)
            simp (disch := omega) only [go_sem, Nat.reduceEqDiff, Nat.reduceAdd, ↓reduceIte, get_pushB, get_putB, pickB_t, pickB_f, eqB_t, eqB_f, ltB_t, leB_t, AH.size_push, AH.size_put, AH.ro_push, AH.ro_put, t9]
            refine callW_of (SpoilT_ok G3 H4 (by omega) Y4 _ _ (hu4.weak E4 (by omega))) ?_
            rintro r H5 ⟨rfl, Y5⟩
            simp (disch := omega) only [go_sem, Nat.reduceEqDiff, Nat.reduceAdd, ↓reduceIte, get_pushB, get_putB, pickB_t, pickB_f, eqB_t, eqB_f, ltB_t, leB_t, AH.size_push, AH.size_put, AH.ro_push, AH.ro_put]
            refine callW_of (EqTensors_ok H5 l l _ _ (Tens.mono Y5 hin) (Tens.mono (F3.trans Y5) hl)) ?_
            rintro r H6 ⟨rfl, X6⟩
            have Y6 := Y5.trans X6
            simp (disch := omega) only [go_sem, Nat.reduceEqDiff, Nat.reduceAdd, ↓reduceIte, get_pushB, get_putB, pickB_t, pickB_f, eqB_t, eqB_f, ltB_t, leB_t, AH.size_push, AH.size_put, AH.ro_push, AH.ro_put, decide_true]
            refine callW_of (EqNumbers_ok H6 d d _ _ (Ints.mono Y6 hdin) (Ints.mono (F3.trans Y6) hd)) ?_
            rintro r H7 ⟨rfl, rfl⟩
            simp (disch := omega) only [go_sem, Nat.reduceEqDiff, Nat.reduceAdd, ↓reduceIte, get_pushB, get_putB, pickB_t, pickB_f, eqB_t, eqB_f, ltB_t, leB_t, AH.size_push, AH.size_put, AH.ro_push, AH.ro_put, decide_true]
            exact F3.trans Y6
          · have e2 : doE val k n d l = (([], []), 4) := by simp [doE, doOk, hT, hf, hdp, k1, k2]
            rw [e2] at hu hud hux t6 ⊢
            simp (disch := omega) only [go_sem, Nat.reduceEqDiff, Nat.reduceAdd, ↓reduceIte, get_pushB, get_putB, pickB_t, pickB_f, eqB_t, eqB_f, ltB_t, leB_t, AH.size_push, AH.size_put, AH.ro_push, AH.ro_put]
            try (simp (disch := omega) only [go_sem, Nat.reduceEqDiff, Nat.reduceAdd, ↓reduceIte, get_pushB, get_putB, pickB_t, pickB_f, eqB_t, eqB_f, ltB_t, leB_t, AH.size_push, AH.size_put, AH.ro_push, AH.ro_put, t6, w6])
            refine callW_of (num_ok ..) ?_
            rintro r G7 ⟨rfl, rfl⟩
            simp (disch := omega) only [go_sem, Nat.reduceEqDiff, Nat.reduceAdd, ↓reduceIte, get_pushB, get_putB, pickB_t, pickB_f, eqB_t, eqB_f, ltB_t, leB_t, AH.size_push, AH.size_put, AH.ro_push, AH.ro_put, Int.reduceEq, decide_true, decide_false, ne_eq, not_true_eq_false, not_false_eq_true]
            refine callW_of (EqNumbers_ok G7 [] [] _ _ (Ints.mono (E5.trans E6) hx.ints) (Sl.nil _ _ _)) ?_
            rintro r G8 ⟨rfl, rfl⟩
            simp (disch := omega) only [go_sem, Nat.reduceEqDiff, Nat.reduceAdd, ↓reduceIte, get_pushB, get_putB, pickB_t, pickB_f, eqB_t, eqB_f, ltB_t, leB_t, AH.size_push, AH.size_put, AH.ro_push, AH.ro_put, decide_true]
            refine callW_of (num_ok ..) ?_
            rintro r G9 ⟨rfl, rfl⟩
            simp (disch := omega) only [go_sem, Nat.reduceEqDiff, Nat.reduceAdd, ↓reduceIte, get_pushB, get_putB, pickB_t, pickB_f, eqB_t, eqB_f, ltB_t, leB_t, AH.size_push, AH.size_put, AH.ro_push, AH.ro_put, t6, w6, Int.reduceEq, decide_true, decide_false, ne_eq, not_true_eq_false, not_false_eq_true]
            have hTt : TenV G9 _ ([], []) := TenV.mono E6 ⟨_, _, rfl, hud.ints, hux.ints⟩
            have hTd : TenV G9 _ ([], []) := ⟨_, _, rfl, Sl.nil _ _ _, Sl.nil _ _ _⟩
            refine callW_of (EqTensor_ok G9 _ _ _ _ hTt hTd) ?_
            rintro r H1 ⟨rfl, X1⟩
            have t7 := X1.get _ _ t6
            have Y1 := (E4.trans (E5.trans E6)).trans X1
            simp (disch := omega) only [go_sem, Nat.reduceEqDiff, Nat.reduceAdd, ↓reduceIte, get_pushB, get_putB, pickB_t, pickB_f, eqB_t, eqB_f, ltB_t, leB_t, AH.size_push, AH.size_put, AH.ro_push, AH.ro_put, decide_true]
            refine callW_of (EqTensors_ok H1 l l _ _ (Tens.mono Y1 hin) (Tens.mono (F3.trans Y1) hl)) ?_
            rintro r H2 ⟨rfl, X2⟩
            have t8 := X2.get _ _ t7
            have Y2 := Y1.trans X2
            simp (disch := omega) only [go_sem, Nat.reduceEqDiff, Nat.reduceAdd, ↓reduceIte, get_pushB, get_putB, pickB_t, pickB_f, eqB_t, eqB_f, ltB_t, leB_t, AH.size_push, AH.size_put, AH.ro_push, AH.ro_put, decide_true]
            refine callW_of (EqNumbers_ok H2 d d _ _ (Ints.mono Y2 hdin) (Ints.mono (F3.trans Y2) hd)) ?_
            rintro r H3 ⟨rfl, rfl⟩
            simp (disch := omega) only [go_sem, Nat.reduceEqDiff, Nat.reduceAdd, ↓reduceIte, get_pushB, get_putB, pickB_t, pickB_f, eqB_t, eqB_f, ltB_t, leB_t, AH.size_push, AH.size_put, AH.ro_push, AH.ro_put, decide_true]
            have Z := (E5.trans E6).trans (X1.trans X2)
            refine callW_of (Spoil_ok G3 H3 _ _ (hx.ext Z)) ?_
            rintro r H4 ⟨rfl, R⟩
            have t9 := R.get _ _ (Own.off hx (c := G5.size) E5.size) t8
            have Y4 : Ext G3 H4 := R.ext Y2 (fun a n k e => (Own.blk hx a n k e).1)
            have Z4 : Ext G3 G4 := E4
            have hu4 := (hu.ext (E6.trans (X1.trans X2))).rest (G0 := G4) (v := .nilIface) R (fun a n k e => (Own.blk hx a n k e).2)
            simp (disch := omega) only [go_sem, Nat.reduceEqDiff, Nat.reduceAdd, ↓reduceIte, get_pushB, get_putB, pickB_t, pickB_f, eqB_t, eqB_f, ltB_t, leB_t, AH.size_push, AH.size_put, AH.ro_push, AH.ro_put, t9]
            refine callW_of (SpoilT_ok G3 H4 (by omega) Y4 _ _ (hu4.weak E4 (by omega))) ?_
            rintro r H5 ⟨rfl, Y5⟩
            simp (disch := omega) only [go_sem, Nat.reduceEqDiff, Nat.reduceAdd, ↓reduceIte, get_pushB, get_putB, pickB_t, pickB_f, eqB_t, eqB_f, ltB_t, leB_t, AH.size_push, AH.size_put, AH.ro_push, AH.ro_put]
            refine callW_of (EqTensors_ok H5 l l _ _ (Tens.mono Y5 hin) (Tens.mono (F3.trans Y5) hl)) ?_
            rintro r H6 ⟨rfl, X6⟩
            have Y6 := Y5.trans X6
            simp (disch := omega) only [go_sem, Nat.reduceEqDiff, Nat.reduceAdd, ↓reduceIte, get_pushB, get_putB, pickB_t, pickB_f, eqB_t, eqB_f, ltB_t, leB_t, AH.size_push, AH.size_put, AH.ro_push, AH.ro_put, decide_true]
            refine callW_of (EqNumbers_ok H6 d d _ _ (Ints.mono Y6 hdin) (Ints.mono (F3.trans Y6) hd)) ?_
            rintro r H7 ⟨rfl, rfl⟩
            simp (disch := omega) only [go_sem, Nat.reduceEqDiff, Nat.reduceAdd, ↓reduceIte, get_pushB, get_putB, pickB_t, pickB_f, eqB_t, eqB_f, ltB_t, leB_t, AH.size_push, AH.size_put, AH.ro_push, AH.ro_put, decide_true]
            exact F3.trans Y6
        · have e2 : doE val k n d l = (([], []), 1) := by simp [doE, doOk, show k = 2 by omega]
          rw [e2] at hu hud hux t6 ⊢
          simp (disch := omega) only [go_sem, Nat.reduceEqDiff, Nat.reduceAdd, ↓reduceIte, get_pushB, get_putB, pickB_t, pickB_f, eqB_t, eqB_f, ltB_t, leB_t, AH.size_push, AH.size_put, AH.ro_push, AH.ro_put]
          try (simp (disch := omega) only [go_sem, Nat.reduceEqDiff, Nat.reduceAdd, ↓reduceIte, get_pushB, get_putB, pickB_t, pickB_f, eqB_t, eqB_f, ltB_t, leB_t, AH.size_push, AH.size_put, AH.ro_push, AH.ro_put, t6, w6])
          refine callW_of (num_ok ..) ?_
          rintro r G7 ⟨rfl, rfl⟩
          simp (disch := omega) only [go_sem, Nat.reduceEqDiff, Nat.reduceAdd, ↓reduceIte, get_pushB, get_putB, pickB_t, pickB_f, eqB_t, eqB_f, ltB_t, leB_t, AH.size_push, AH.size_put, AH.ro_push, AH.ro_put, Int.reduceEq, decide_true, decide_false, ne_eq, not_true_eq_false, not_false_eq_true]
          refine callW_of (EqNumbers_ok G7 [] [] _ _ (Ints.mono (E5.trans E6) hx.ints) (Sl.nil _ _ _)) ?_
          rintro r G8 ⟨rfl, rfl⟩
          simp (disch := omega) only [go_sem, Nat.reduceEqDiff, Nat.reduceAdd, ↓reduceIte, get_pushB, get_putB, pickB_t, pickB_f, eqB_t, eqB_f, ltB_t, leB_t, AH.size_push, AH.size_put, AH.ro_push, AH.ro_put, decide_true]
          refine callW_of (num_ok ..) ?_
          rintro r G9 ⟨rfl, rfl⟩
          simp (disch := omega) only [go_sem, Nat.reduceEqDiff, Nat.reduceAdd, ↓reduceIte, get_pushB, get_putB, pickB_t, pickB_f, eqB_t, eqB_f, ltB_t, leB_t, AH.size_push, AH.size_put, AH.ro_push, AH.ro_put, t6, w6, Int.reduceEq, decide_true, decide_false, ne_eq, not_true_eq_false, not_false_eq_true]
          have hTt : TenV G9 _ ([], []) := TenV.mono E6 ⟨_, _, rfl, hud.ints, hux.ints⟩
          have hTd : TenV G9 _ ([], []) := ⟨_, _, rfl, Sl.nil _ _ _, Sl.nil _ _ _⟩
          refine callW_of (EqTensor_ok G9 _ _ _ _ hTt hTd) ?_
          rintro r H1 ⟨rfl, X1⟩
          have t7 := X1.get _ _ t6
          have Y1 := (E4.trans (E5.trans E6)).trans X1
          simp (disch := omega) only [go_sem, Nat.reduceEqDiff, Nat.reduceAdd, ↓reduceIte, get_pushB, get_putB, pickB_t, pickB_f, eqB_t, eqB_f, ltB_t, leB_t, AH.size_push, AH.size_put, AH.ro_push, AH.ro_put, decide_true]
          refine callW_of (EqTensors_ok H1 l l _ _ (Tens.mono Y1 hin) (Tens.mono (F3.trans Y1) hl)) ?_
          rintro r H2 ⟨rfl, X2⟩
          have t8 := X2.get _ _ t7
          have Y2 := Y1.trans X2
          simp (disch := omega) only [go_sem, Nat.reduceEqDiff, Nat.reduceAdd, ↓reduceIte, get_pushB, get_putB, pickB_t, pickB_f, eqB_t, eqB_f, ltB_t, leB_t, AH.size_push, AH.size_put, AH.ro_push, AH.ro_put, decide_true]
          refine callW_of (EqNumbers_ok H2 d d _ _ (Ints.mono Y2 hdin) (Ints.mono (F3.trans Y2) hd)) ?_
          rintro r H3 ⟨rfl, rfl⟩
          simp (disch := omega) only [go_sem, Nat.reduceEqDiff, Nat.reduceAdd, ↓reduceIte, get_pushB, get_putB, pickB_t, pickB_f, eqB_t, eqB_f, ltB_t, leB_t, AH.size_push, AH.size_put, AH.ro_push, AH.ro_put, decide_true]
          have Z := (E5.trans E6).trans (X1.trans X2)
          refine callW_of (Spoil_ok G3 H3 _ _ (hx.ext Z)) ?_
          rintro r H4 ⟨rfl, R⟩
          have t9 := R.get _ _ (Own.off hx (c := G5.size) E5.size) t8
          have Y4 : Ext G3 H4 := R.ext Y2 (fun a n k e => (Own.blk hx a n k e).1)
          have Z4 : Ext G3 G4 := E4
          have hu4 := (hu.ext (E6.trans (X1.trans X2))).rest (G0 := G4) (v := .nilIface) R (fun a n k e => (Own.blk hx a n k e).2)
          simp (disch := omega) only [go_sem, Nat.reduceEqDiff, Nat.reduceAdd, ↓reduceIte, get_pushB, get_putB, pickB_t, pickB_f, eqB_t, eqB_f, ltB_t, leB_t, AH.size_push, AH.size_put, AH.ro_push, AH.ro_put, t9]
          refine callW_of (SpoilT_ok G3 H4 (by omega) Y4 _ _ (hu4.weak E4 (by omega))) ?_
          rintro r H5 ⟨rfl, Y5⟩
          simp (disch := omega) only [go_sem, Nat.reduceEqDiff, Nat.reduceAdd, ↓reduceIte, get_pushB, get_putB, pickB_t, pickB_f, eqB_t, eqB_f, ltB_t, leB_t, AH.size_push, AH.size_put, AH.ro_push, AH.ro_put]
          refine callW_of (EqTensors_ok H5 l l _ _ (Tens.mono Y5 hin) (Tens.mono (F3.trans Y5) hl)) ?_
          rintro r H6 ⟨rfl, X6⟩
          have Y6 := Y5.trans X6
          simp (disch := omega) only [go_sem, Nat.reduceEqDiff, Nat.reduceAdd, ↓reduceIte, get_pushB, get_putB, pickB_t, pickB_f, eqB_t, eqB_f, ltB_t, leB_t, AH.size_push, AH.size_put, AH.ro_push, AH.ro_put, decide_true]
          refine callW_of (EqNumbers_ok H6 d d _ _ (Ints.mono Y6 hdin) (Ints.mono (F3.trans Y6) hd)) ?_
          rintro r H7 ⟨rfl, rfl⟩
          simp (disch := omega) only [go_sem, Nat.reduceEqDiff, Nat.reduceAdd, ↓reduceIte, get_pushB, get_putB, pickB_t, pickB_f, eqB_t, eqB_f, ltB_t, leB_t, AH.size_push, AH.size_put, AH.ro_push, AH.ro_put, decide_true]
          exact F3.trans Y6
      · have e2 : doE val k n d l = (([], []), 1) := by simp [doE, doOk, show k = 1 by omega]
        rw [e2] at hu hud hux t6 ⊢
        simp (disch := omega) only [go_sem, Nat.reduceEqDiff, Nat.reduceAdd, ↓reduceIte, get_pushB, get_putB, pickB_t, pickB_f, eqB_t, eqB_f, ltB_t, leB_t, AH.size_push, AH.size_put, AH.ro_push, AH.ro_put]
        try (simp (disch := omega) only [go_sem, Nat.reduceEqDiff, Nat.reduceAdd, ↓reduceIte, get_pushB, get_putB, pickB_t, pickB_f, eqB_t, eqB_f, ltB_t, leB_t, AH.size_push, AH.size_put, AH.ro_push, AH.ro_put, t6, w6])
        refine callW_of (num_ok ..) ?_
        rintro r G7 ⟨rfl, rfl⟩
        simp (disch := omega) only [go_sem, Nat.reduceEqDiff, Nat.reduceAdd, ↓reduceIte, get_pushB, get_putB, pickB_t, pickB_f, eqB_t, eqB_f, ltB_t, leB_t, AH.size_push, AH.size_put, AH.ro_push, AH.ro_put, Int.reduceEq, decide_true, decide_false, ne_eq, not_true_eq_false, not_false_eq_true]
        refine callW_of (EqNumbers_ok G7 [] [] _ _ (Ints.mono (E5.trans E6) hx.ints) (Sl.nil _ _ _)) ?_
        rintro r G8 ⟨rfl, rfl⟩
        simp (disch := omega) only [go_sem, Nat.reduceEqDiff, Nat.reduceAdd, ↓reduceIte, get_pushB, get_putB, pickB_t, pickB_f, eqB_t, eqB_f, ltB_t, leB_t, AH.size_push, AH.size_put, AH.ro_push, AH.ro_put, decide_true]
        refine callW_of (num_ok ..) ?_
        rintro r G9 ⟨rfl, rfl⟩
        simp (disch := omega) only [go_sem, Nat.reduceEqDiff, Nat.reduceAdd, ↓reduceIte, get_pushB, get_putB, pickB_t, pickB_f, eqB_t, eqB_f, ltB_t, leB_t, AH.size_push, AH.size_put, AH.ro_push, AH.ro_put, t6, w6, Int.reduceEq, decide_true, decide_false, ne_eq, not_true_eq_false, not_false_eq_true]
        have hTt : TenV G9 _ ([], []) := TenV.mono E6 ⟨_, _, rfl, hud.ints, hux.ints⟩
        have hTd : TenV G9 _ ([], []) := ⟨_, _, rfl, Sl.nil _ _ _, Sl.nil _ _ _⟩
        refine callW_of (EqTensor_ok G9 _ _ _ _ hTt hTd) ?_
        rintro r H1 ⟨rfl, X1⟩
        have t7 := X1.get _ _ t6
        have Y1 := (E4.trans (E5.trans E6)).trans X1
        simp (disch := omega) only [go_sem, Nat.reduceEqDiff, Nat.reduceAdd, ↓reduceIte, get_pushB, get_putB, pickB_t, pickB_f, eqB_t, eqB_f, ltB_t, leB_t, AH.size_push, AH.size_put, AH.ro_push, AH.ro_put, decide_true]
        refine callW_of (EqTensors_ok H1 l l _ _ (Tens.mono Y1 hin) (Tens.mono (F3.trans Y1) hl)) ?_
        rintro r H2 ⟨rfl, X2⟩
        have t8 := X2.get _ _ t7
        have Y2 := Y1.trans X2
        simp (disch := omega) only [go_sem, Nat.reduceEqDiff, Nat.reduceAdd, ↓reduceIte, get_pushB, get_putB, pickB_t, pickB_f, eqB_t, eqB_f, ltB_t, leB_t, AH.size_push, AH.size_put, AH.ro_push, AH.ro_put, decide_true]
        refine callW_of (EqNumbers_ok H2 d d _ _ (Ints.mono Y2 hdin) (Ints.mono (F3.trans Y2) hd)) ?_
        rintro r H3 ⟨rfl, rfl⟩
        simp (disch := omega) only [go_sem, Nat.reduceEqDiff, Nat.reduceAdd, ↓reduceIte, get_pushB, get_putB, pickB_t, pickB_f, eqB_t, eqB_f, ltB_t, leB_t, AH.size_push, AH.size_put, AH.ro_push, AH.ro_put, decide_true]
        have Z := (E5.trans E6).trans (X1.trans X2)
        refine callW_of (Spoil_ok G3 H3 _ _ (hx.ext Z)) ?_
        rintro r H4 ⟨rfl, R⟩
        have t9 := R.get _ _ (Own.off hx (c := G5.size) E5.size) t8
        have Y4 : Ext G3 H4 := R.ext Y2 (fun a n k e => (Own.blk hx a n k e).1)
        have Z4 : Ext G3 G4 := E4
        have hu4 := (hu.ext (E6.trans (X1.trans X2))).rest (G0 := G4) (v := .nilIface) R (fun a n k e => (Own.blk hx a n k e).2)
        simp (disch := omega) only [go_sem, Nat.reduceEqDiff, Nat.reduceAdd, ↓reduceIte, get_pushB, get_putB, pickB_t, pickB_f, eqB_t, eqB_f, ltB_t, leB_t, AH.size_push, AH.size_put, AH.ro_push, AH.ro_put, t9]
        refine callW_of (SpoilT_ok G3 H4 (by omega) Y4 _ _ (hu4.weak E4 (by omega))) ?_
        rintro r H5 ⟨rfl, Y5⟩
        simp (disch := omega) only [go_sem, Nat.reduceEqDiff, Nat.reduceAdd, ↓reduceIte, get_pushB, get_putB, pickB_t, pickB_f, eqB_t, eqB_f, ltB_t, leB_t, AH.size_push, AH.size_put, AH.ro_push, AH.ro_put]
        refine callW_of (EqTensors_ok H5 l l _ _ (Tens.mono Y5 hin) (Tens.mono (F3.trans Y5) hl)) ?_
        rintro r H6 ⟨rfl, X6⟩
        have Y6 := Y5.trans X6
        simp (disch := omega) only [go_sem, Nat.reduceEqDiff, Nat.reduceAdd, ↓reduceIte, get_pushB, get_putB, pickB_t, pickB_f, eqB_t, eqB_f, ltB_t, leB_t, AH.size_push, AH.size_put, AH.ro_push, AH.ro_put, decide_true]
        refine callW_of (EqNumbers_ok H6 d d _ _ (Ints.mono Y6 hdin) (Ints.mono (F3.trans Y6) hd)) ?_
        rintro r H7 ⟨rfl, rfl⟩
        simp (disch := omega) only [go_sem, Nat.reduceEqDiff, Nat.reduceAdd, ↓reduceIte, get_pushB, get_putB, pickB_t, pickB_f, eqB_t, eqB_f, ltB_t, leB_t, AH.size_push, AH.size_put, AH.ro_push, AH.ro_put, decide_true]
        exact F3.trans Y6
    | some x =>
      have e1 : dimsE k n d (l.map (·.1)) = (x, 0) := by simp [dimsE, hf, hdp]
      rw [e1] at hx ⊢
      simp (disch := omega) only [go_sem, Nat.reduceEqDiff, Nat.reduceAdd, ↓reduceIte, get_pushB, get_putB, pickB_t, pickB_f, eqB_t, eqB_f, ltB_t, leB_t, AH.size_push, AH.size_put, AH.ro_push, AH.ro_put, Option.isSome_some]
      refine Split.mk (fun _ => ?_) (fun h => absurd trivial h)
      have hyx := hyd x hdp
      subst hyx
      simp (disch := omega) only [go_sem, Nat.reduceEqDiff, Nat.reduceAdd, ↓reduceIte, get_pushB, get_putB, pickB_t, pickB_f, eqB_t, eqB_f, ltB_t, leB_t, AH.size_push, AH.size_put, AH.ro_push, AH.ro_put]
      refine SplitG.mk (fun k1 => ?_) (fun k1 => ?_)
      · simp (disch := omega) only [go_sem, Nat.reduceEqDiff, Nat.reduceAdd, ↓reduceIte, get_pushB, get_putB, pickB_t, pickB_f, eqB_t, eqB_f, ltB_t, leB_t, AH.size_push, AH.size_put, AH.ro_push, AH.ro_put]
        refine SplitG.mk (fun k2 => ?_) (fun k2 => ?_)
        · simp (disch := omega) only [go_sem, Nat.reduceEqDiff, Nat.reduceAdd, ↓reduceIte, get_pushB, get_putB, pickB_t, pickB_f, eqB_t, eqB_f, ltB_t, leB_t, AH.size_push, AH.size_put, AH.ro_push, AH.ro_put]
          refine callW_of (RefTensors_ok G7 l _ (Tens.mono F6 hl)) ?_
          rintro r G8 ⟨rfl, E8⟩
          have t6 := E8.get _ _ t6
          have w6 := E8.get _ _ w6
          have E6 := E6.trans E8
          have F6 := F6.trans E8
          have hyi := Ints.mono E8 hyi
          cases hT : l.all isT
          · have e2 : doE val k n d l = (([], []), 1) := by simp [doE, doOk, hT]
            rw [e2] at hu hud hux t6 ⊢
            simp (disch := omega) only [go_sem, Nat.reduceEqDiff, Nat.reduceAdd, ↓reduceIte, get_pushB, get_putB, pickB_t, pickB_f, eqB_t, eqB_f, ltB_t, leB_t, AH.size_push, AH.size_put, AH.ro_push, AH.ro_put]
            try (simp (disch := omega) only [go_sem, Nat.reduceEqDiff, Nat.reduceAdd, ↓reduceIte, get_pushB, get_putB, pickB_t, pickB_f, eqB_t, eqB_f, ltB_t, leB_t, AH.size_push, AH.size_put, AH.ro_push, AH.ro_put, t6, w6])
            refine callW_of (num_ok ..) ?_
            rintro r G7 ⟨rfl, rfl⟩
            simp (disch := omega) only [go_sem, Nat.reduceEqDiff, Nat.reduceAdd, ↓reduceIte, get_pushB, get_putB, pickB_t, pickB_f, eqB_t, eqB_f, ltB_t, leB_t, AH.size_push, AH.size_put, AH.ro_push, AH.ro_put, Int.reduceEq, decide_true, decide_false, ne_eq, not_true_eq_false, not_false_eq_true]
            refine callW_of (EqNumbers_ok G7 yl yl _ _ (Ints.mono (E5.trans E6) hx.ints) hyi) ?_
            rintro r G8 ⟨rfl, rfl⟩
            simp (disch := omega) only [go_sem, Nat.reduceEqDiff, Nat.reduceAdd, ↓reduceIte, get_pushB, get_putB, pickB_t, pickB_f, eqB_t, eqB_f, ltB_t, leB_t, AH.size_push, AH.size_put, AH.ro_push, AH.ro_put, decide_true]
            refine callW_of (num_ok ..) ?_
            rintro r G9 ⟨rfl, rfl⟩
            simp (disch := omega) only [go_sem, Nat.reduceEqDiff, Nat.reduceAdd, ↓reduceIte, get_pushB, get_putB, pickB_t, pickB_f, eqB_t, eqB_f, ltB_t, leB_t, AH.size_push, AH.size_put, AH.ro_push, AH.ro_put, t6, w6, Int.reduceEq, decide_true, decide_false, ne_eq, not_true_eq_false, not_false_eq_true]
            have hTt : TenV G9 _ ([], []) := TenV.mono E6 ⟨_, _, rfl, hud.ints, hux.ints⟩
            have hTd : TenV G9 _ ([], []) := ⟨_, _, rfl, Sl.nil _ _ _, Sl.nil _ _ _⟩
            refine callW_of (EqTensor_ok G9 _ _ _ _ hTt hTd) ?_
            rintro r H1 ⟨rfl, X1⟩
            have t7 := X1.get _ _ t6
            have Y1 := (E4.trans (E5.trans E6)).trans X1
            simp (disch := omega) only [go_sem, Nat.reduceEqDiff, Nat.reduceAdd, ↓reduceIte, get_pushB, get_putB, pickB_t, pickB_f, eqB_t, eqB_f, ltB_t, leB_t, AH.size_push, AH.size_put, AH.ro_push, AH.ro_put, decide_true]
            refine callW_of (EqTensors_ok H1 l l _ _ (Tens.mono Y1 hin) (Tens.mono (F3.trans Y1) hl)) ?_
            rintro r H2 ⟨rfl, X2⟩
            have t8 := X2.get _ _ t7
            have Y2 := Y1.trans X2
            simp (disch := omega) only [go_sem, Nat.reduceEqDiff, Nat.reduceAdd, ↓reduceIte, get_pushB, get_putB, pickB_t, pickB_f, eqB_t, eqB_f, ltB_t, leB_t, AH.size_push, AH.size_put, AH.ro_push, AH.ro_put, decide_true]
            refine callW_of (EqNumbers_ok H2 d d _ _ (Ints.mono Y2 hdin) (Ints.mono (F3.trans Y2) hd)) ?_
            rintro r H3 ⟨rfl, rfl⟩
            simp (disch := omega) only [go_sem, Nat.reduceEqDiff, Nat.reduceAdd, ↓reduceIte, get_pushB, get_putB, pickB_t, pickB_f, eqB_t, eqB_f, ltB_t, leB_t, AH.size_push, AH.size_put, AH.ro_push, AH.ro_put, decide_true]
            have Z := (E5.trans E6).trans (X1.trans X2)
            refine callW_of (Spoil_ok G3 H3 _ _ (hx.ext Z)) ?_
            rintro r H4 ⟨rfl, R⟩
            have t9 := R.get _ _ (Own.off hx (c := G5.size) E5.size) t8
            have Y4 : Ext G3 H4 := R.ext Y2 (fun a n k e => (Own.blk hx a n k e).1)
            have Z4 : Ext G3 G4 := E4
            have hu4 := (hu.ext (E6.trans (X1.trans X2))).rest (G0 := G4) (v := .nilIface) R (fun a n k e => (Own.blk hx a n k e).2)
            simp (disch := omega) only [go_sem, Nat.reduceEqDiff, Nat.reduceAdd, ↓reduceIte, get_pushB, get_putB, pickB_t, pickB_f, eqB_t, eqB_f, ltB_t, leB_t, AH.size_push, AH.size_put, AH.ro_push, AH.ro_put, t9]
            refine callW_of (SpoilT_ok G3 H4 (by omega) Y4 _ _ (hu4.weak E4 (by omega))) ?_
            rintro r H5 ⟨rfl, Y5⟩
            simp (disch := omega) only [go_sem, Nat.reduceEqDiff, Nat.reduceAdd, ↓reduceIte, get_pushB, get_putB, pickB_t, pickB_f, eqB_t, eqB_f, ltB_t, leB_t, AH.size_push, AH.size_put, AH.ro_push, AH.ro_put]
            refine callW_of (EqTensors_ok H5 l l _ _ (Tens.mono Y5 hin) (Tens.mono (F3.trans Y5) hl)) ?_
            rintro r H6 ⟨rfl, X6⟩
            have Y6 := Y5.trans X6
            simp (disch := omega) only [go_sem, Nat.reduceEqDiff, Nat.reduceAdd, ↓reduceIte, get_pushB, get_putB, pickB_t, pickB_f, eqB_t, eqB_f, ltB_t, leB_t, AH.size_push, AH.size_put, AH.ro_push, AH.ro_put, decide_true]
            refine callW_of (EqNumbers_ok H6 d d _ _ (Ints.mono Y6 hdin) (Ints.mono (F3.trans Y6) hd)) ?_
            rintro r H7 ⟨rfl, rfl⟩
            simp (disch := omega) only [go_sem, Nat.reduceEqDiff, Nat.reduceAdd, ↓reduceIte, get_pushB, get_putB, pickB_t, pickB_f, eqB_t, eqB_f, ltB_t, leB_t, AH.size_push, AH.size_put, AH.ro_push, AH.ro_put, decide_true]
            exact F3.trans Y6
          · have hok : doOk k n d l = true := by simp [doOk, hT, hf, k1, k2]
            have e2 : doE val k n d l = ((yl, val n d l), 0) := by simp [doE, hok, hdp]
            rw [e2] at hu hud hux t6 ⊢
            simp (disch := omega) only [go_sem, Nat.reduceEqDiff, Nat.reduceAdd, ↓reduceIte, get_pushB, get_putB, pickB_t, pickB_f, eqB_t, eqB_f, ltB_t, leB_t, AH.size_push, AH.size_put, AH.ro_push, AH.ro_put]
            have r8 := E8.ro
            have s8 := E8.size
            refine callW_of (hk.ref n d l yl hok hdp G8 _ _ (by omega) (Ints.mono F6 hd) (Tens.mono F6 hl)) ?_
            rintro r G9 ⟨⟨wd, wx, rfl, hwd, hwx, _⟩, E9⟩
            obtain ⟨p3, c3, rfl⟩ := hwd.ints.inv
            obtain ⟨p4, c4, rfl⟩ := hwx.ints.inv
            have t6 := E9.get _ _ t6
            have w6 := E9.get _ _ w6
            have r9 := E9.ro
            have s9 := E9.size
            simp (disch := omega) only [go_sem, Nat.reduceEqDiff, Nat.reduceAdd, ↓reduceIte, get_pushB, get_putB, pickB_t, pickB_f, eqB_t, eqB_f, ltB_t, leB_t, AH.size_push, AH.size_put, AH.ro_push, AH.ro_put, w6]
            refine callW_gen ?_
            intro G10 hG10
            have E6 : Ext G5 G10 := by rw [hG10]; exact (E6.trans E9).put (by omega) (by omega) _
            have t6 : G10.get G5.size = some [.slice p1 yl.length c1, .slice p2 (val n d l).length c2] := by rw [hG10, get_put_ne (by omega)]; exact t6
            have w6 : G10.get (G5.size + 1) = some [.slice p3 yl.length c3, .slice p4 (val n d l).length c4] := by rw [hG10]; (try simp (disch := omega) only [get_pushB, get_putB, pickB_t, pickB_f, eqB_t, eqB_f, ltB_t, AH.size_push, AH.size_put, AH.ro_push, AH.ro_put])
            have hyi : Ints G10 (.slice py yl.length cy) yl := by rw [hG10]; exact ((hy.ext (E8.trans E9)).put (by omega) _).ints
            have hD : TenV G10 (.agg #[.slice p3 yl.length c3, .slice p4 (val n d l).length c4]) (yl, val n d l) := by rw [hG10]; exact ⟨_, _, rfl, (hwd.put (by omega) _).ints, (hwx.put (by omega) _).ints⟩
            clear hG10
            try (simp (disch := omega) only [go_sem, Nat.reduceEqDiff, Nat.reduceAdd, ↓reduceIte, get_pushB, get_putB, pickB_t, pickB_f, eqB_t, eqB_f, ltB_t, leB_t, AH.size_push, AH.size_put, AH.ro_push, AH.ro_put, t6, w6])
            refine callW_of (num_ok ..) ?_
            rintro r G7 ⟨rfl, rfl⟩
            simp (disch := omega) only [go_sem, Nat.reduceEqDiff, Nat.reduceAdd, ↓reduceIte, get_pushB, get_putB, pickB_t, pickB_f, eqB_t, eqB_f, ltB_t, leB_t, AH.size_push, AH.size_put, AH.ro_push, AH.ro_put, Int.reduceEq, decide_true, decide_false, ne_eq, not_true_eq_false, not_false_eq_true]
            refine callW_of (EqNumbers_ok _ yl yl _ _ (Ints.mono (E5.trans E6) hx.ints) hyi) ?_
            rintro r G8 ⟨rfl, rfl⟩
            simp (disch := omega) only [go_sem, Nat.reduceEqDiff, Nat.reduceAdd, ↓reduceIte, get_pushB, get_putB, pickB_t, pickB_f, eqB_t, eqB_f, ltB_t, leB_t, AH.size_push, AH.size_put, AH.ro_push, AH.ro_put, decide_true]
            refine callW_of (num_ok ..) ?_
            rintro r G9 ⟨rfl, rfl⟩
            simp (disch := omega) only [go_sem, Nat.reduceEqDiff, Nat.reduceAdd, ↓reduceIte, get_pushB, get_putB, pickB_t, pickB_f, eqB_t, eqB_f, ltB_t, leB_t, AH.size_push, AH.size_put, AH.ro_push, AH.ro_put, t6, w6, Int.reduceEq, decide_true, decide_false, ne_eq, not_true_eq_false, not_false_eq_true]
            have hTt : TenV G9 _ (yl, val n d l) := TenV.mono E6 ⟨_, _, rfl, hud.ints, hux.ints⟩
            have hTd : TenV G9 _ (yl, val n d l) := hD
            refine callW_of (EqTensor_ok G9 _ _ _ _ hTt hTd) ?_
            rintro r H1 ⟨rfl, X1⟩
            have t7 := X1.get _ _ t6
            have Y1 := (E4.trans (E5.trans E6)).trans X1
            simp (disch := omega) only [go_sem, Nat.reduceEqDiff, Nat.reduceAdd, ↓reduceIte, get_pushB, get_putB, pickB_t, pickB_f, eqB_t, eqB_f, ltB_t, leB_t, AH.size_push, AH.size_put, AH.ro_push, AH.ro_put, decide_true]
            refine callW_of (EqTensors_ok H1 l l _ _ (Tens.mono Y1 hin) (Tens.mono (F3.trans Y1) hl)) ?_
            rintro r H2 ⟨rfl, X2⟩
            have t8 := X2.get _ _ t7
            have Y2 := Y1.trans X2
            simp (disch := omega) only [go_sem, Nat.reduceEqDiff, Nat.reduceAdd, ↓reduceIte, get_pushB, get_putB, pickB_t, pickB_f, eqB_t, eqB_f, ltB_t, leB_t, AH.size_push, AH.size_put, AH.ro_push, AH.ro_put, decide_true]
            refine callW_of (EqNumbers_ok H2 d d _ _ (Ints.mono Y2 hdin) (Ints.mono (F3.trans Y2) hd)) ?_
            rintro r H3 ⟨rfl, rfl⟩
            simp (disch := omega) only [go_sem, Nat.reduceEqDiff, Nat.reduceAdd, ↓reduceIte, get_pushB, get_putB, pickB_t, pickB_f, eqB_t, eqB_f, ltB_t, leB_t, AH.size_push, AH.size_put, AH.ro_push, AH.ro_put, decide_true]
            have Z := (E5.trans E6).trans (X1.trans X2)
            refine callW_of (Spoil_ok G3 H3 _ _ (hx.ext Z)) ?_
            rintro r H4 ⟨rfl, R⟩
            have t9 := R.get _ _ (Own.off hx (c := G5.size) E5.size) t8
            have Y4 : Ext G3 H4 := R.ext Y2 (fun a n k e => (Own.blk hx a n k e).1)
            have Z4 : Ext G3 G4 := E4
            have hu4 := (hu.ext (E6.trans (X1.trans X2))).rest (G0 := G4) (v := .nilIface) R (fun a n k e => (Own.blk hx a n k e).2)
            simp (disch := omega) only [go_sem, Nat.reduceEqDiff, Nat.reduceAdd, ↓reduceIte, get_pushB, get_putB, pickB_t, pickB_f, eqB_t, eqB_f, ltB_t, leB_t, AH.size_push, AH.size_put, AH.ro_push, AH.ro_put, t9]
            refine callW_of (SpoilT_ok G3 H4 (by omega) Y4 _ _ (hu4.weak E4 (by omega))) ?_
            rintro r H5 ⟨rfl, Y5⟩
            simp (disch := omega) only [go_sem, Nat.reduceEqDiff, Nat.reduceAdd, ↓reduceIte, get_pushB, get_putB, pickB_t, pickB_f, eqB_t, eqB_f, ltB_t, leB_t, AH.size_push, AH.size_put, AH.ro_push, AH.ro_put]
            refine callW_of (EqTensors_ok H5 l l _ _ (Tens.mono Y5 hin) (Tens.mono (F3.trans Y5) hl)) ?_
            rintro r H6 ⟨rfl, X6⟩
            have Y6 := Y5.trans X6
            simp (disch := omega) only [go_sem, Nat.reduceEqDiff, Nat.reduceAdd, ↓reduceIte, get_pushB, get_putB, pickB_t, pickB_f, eqB_t, eqB_f, ltB_t, leB_t, AH.size_push, AH.size_put, AH.ro_push, AH.ro_put, decide_true]
            refine callW_of (EqNumbers_ok H6 d d _ _ (Ints.mono Y6 hdin) (Ints.mono (F3.trans Y6) hd)) ?_
            rintro r H7 ⟨rfl, rfl⟩
            simp (disch := omega) only [go_sem, Nat.reduceEqDiff, Nat.reduceAdd, ↓reduceIte, get_pushB, get_putB, pickB_t, pickB_f, eqB_t, eqB_f, ltB_t, leB_t, AH.size_push, AH.size_put, AH.ro_push, AH.ro_put, decide_true]
            exact F3.trans Y6
        · have e2 : doE val k n d l = (([], []), 1) := by simp [doE, doOk, show k = 2 by omega]
          rw [e2] at hu hud hux t6 ⊢
          simp (disch := omega) only [go_sem, Nat.reduceEqDiff, Nat.reduceAdd, ↓reduceIte, get_pushB, get_putB, pickB_t, pickB_f, eqB_t, eqB_f, ltB_t, leB_t, AH.size_push, AH.size_put, AH.ro_push, AH.ro_put]
          try (simp (disch := omega) only [go_sem, Nat.reduceEqDiff, Nat.reduceAdd, ↓reduceIte, get_pushB, get_putB, pickB_t, pickB_f, eqB_t, eqB_f, ltB_t, leB_t, AH.size_push, AH.size_put, AH.ro_push, AH.ro_put, t6, w6])
          refine callW_of (num_ok ..) ?_
          rintro r G7 ⟨rfl, rfl⟩
          simp (disch := omega) only [go_sem, Nat.reduceEqDiff, Nat.reduceAdd, ↓reduceIte, get_pushB, get_putB, pickB_t, pickB_f, eqB_t, eqB_f, ltB_t, leB_t, AH.size_push, AH.size_put, AH.ro_push, AH.ro_put, Int.reduceEq, decide_true, decide_false, ne_eq, not_true_eq_false, not_false_eq_true]
          refine callW_of (EqNumbers_ok G7 yl yl _ _ (Ints.mono (E5.trans E6) hx.ints) hyi) ?_
          rintro r G8 ⟨rfl, rfl⟩
          simp (disch := omega) only [go_sem, Nat.reduceEqDiff, Nat.reduceAdd, ↓reduceIte, get_pushB, get_putB, pickB_t, pickB_f, eqB_t, eqB_f, ltB_t, leB_t, AH.size_push, AH.size_put, AH.ro_push, AH.ro_put, decide_true]
          refine callW_of (num_ok ..) ?_
          rintro r G9 ⟨rfl, rfl⟩
          simp (disch := omega) only [go_sem, Nat.reduceEqDiff, Nat.reduceAdd, ↓reduceIte, get_pushB, get_putB, pickB_t, pickB_f, eqB_t, eqB_f, ltB_t, leB_t, AH.size_push, AH.size_put, AH.ro_push, AH.ro_put, t6, w6, Int.reduceEq, decide_true, decide_false, ne_eq, not_true_eq_false, not_false_eq_true]
          have hTt : TenV G9 _ ([], []) := TenV.mono E6 ⟨_, _, rfl, hud.ints, hux.ints⟩
          have hTd : TenV G9 _ ([], []) := ⟨_, _, rfl, Sl.nil _ _ _, Sl.nil _ _ _⟩
          refine callW_of (EqTensor_ok G9 _ _ _ _ hTt hTd) ?_
          rintro r H1 ⟨rfl, X1⟩
          have t7 := X1.get _ _ t6
          have Y1 := (E4.trans (E5.trans E6)).trans X1
          simp (disch := omega) only [go_sem, Nat.reduceEqDiff, Nat.reduceAdd, ↓reduceIte, get_pushB, get_putB, pickB_t, pickB_f, eqB_t, eqB_f, ltB_t, leB_t, AH.size_push, AH.size_put, AH.ro_push, AH.ro_put, decide_true]
          refine callW_of (EqTensors_ok H1 l l _ _ (Tens.mono Y1 hin) (Tens.mono (F3.trans Y1) hl)) ?_
          rintro r H2 ⟨rfl, X2⟩
          have t8 := X2.get _ _ t7
          have Y2 := Y1.trans X2
          simp (disch := omega) only [go_sem, Nat.reduceEqDiff, Nat.reduceAdd, ↓reduceIte, get_pushB, get_putB, pickB_t, pickB_f, eqB_t, eqB_f, ltB_t, leB_t, AH.size_push, AH.size_put, AH.ro_push, AH.ro_put, decide_true]
          refine callW_of (EqNumbers_ok H2 d d _ _ (Ints.mono Y2 hdin) (Ints.mono (F3.trans Y2) hd)) ?_
          rintro r H3 ⟨rfl, rfl⟩
          simp (disch := omega) only [go_sem, Nat.reduceEqDiff, Nat.reduceAdd, ↓reduceIte, get_pushB, get_putB, pickB_t, pickB_f, eqB_t, eqB_f, ltB_t, leB_t, AH.size_push, AH.size_put, AH.ro_push, AH.ro_put, decide_true]
          have Z := (E5.trans E6).trans (X1.trans X2)
          refine callW_of (Spoil_ok G3 H3 _ _ (hx.ext Z)) ?_
          rintro r H4 ⟨rfl, R⟩
          have t9 := R.get _ _ (Own.off hx (c := G5.size) E5.size) t8
          have Y4 : Ext G3 H4 := R.ext Y2 (fun a n k e => (Own.blk hx a n k e).1)
          have Z4 : Ext G3 G4 := E4
          have hu4 := (hu.ext (E6.trans (X1.trans X2))).rest (G0 := G4) (v := .nilIface) R (fun a n k e => (Own.blk hx a n k e).2)
          simp (disch := omega) only [go_sem, Nat.reduceEqDiff, Nat.reduceAdd, ↓reduceIte, get_pushB, get_putB, pickB_t, pickB_f, eqB_t, eqB_f, ltB_t, leB_t, AH.size_push, AH.size_put, AH.ro_push, AH.ro_put, t9]
          refine callW_of (SpoilT_ok G3 H4 (by omega) Y4 _ _ (hu4.weak E4 (by omega))) ?_
          rintro r H5 ⟨rfl, Y5⟩
          simp (disch := omega) only [go_sem, Nat.reduceEqDiff, Nat.reduceAdd, ↓reduceIte, get_pushB, get_putB, pickB_t, pickB_f, eqB_t, eqB_f, ltB_t, leB_t, AH.size_push, AH.size_put, AH.ro_push, AH.ro_put]
          refine callW_of (EqTensors_ok H5 l l _ _ (Tens.mono Y5 hin) (Tens.mono (F3.trans Y5) hl)) ?_
          rintro r H6 ⟨rfl, X6⟩
          have Y6 := Y5.trans X6
          simp (disch := omega) only [go_sem, Nat.reduceEqDiff, Nat.reduceAdd, ↓reduceIte, get_pushB, get_putB, pickB_t, pickB_f, eqB_t, eqB_f, ltB_t, leB_t, AH.size_push, AH.size_put, AH.ro_push, AH.ro_put, decide_true]
          refine callW_of (EqNumbers_ok H6 d d _ _ (Ints.mono Y6 hdin) (Ints.mono (F3.trans Y6) hd)) ?_
          rintro r H7 ⟨rfl, rfl⟩
          simp (disch := omega) only [go_sem, Nat.reduceEqDiff, Nat.reduceAdd, ↓reduceIte, get_pushB, get_putB, pickB_t, pickB_f, eqB_t, eqB_f, ltB_t, leB_t, AH.size_push, AH.size_put, AH.ro_push, AH.ro_put, decide_true]
          exact F3.trans Y6
      · have e2 : doE val k n d l = (([], []), 1) := by simp [doE, doOk, show k = 1 by omega]
        rw [e2] at hu hud hux t6 ⊢
        simp (disch := omega) only [go_sem, Nat.reduceEqDiff, Nat.reduceAdd, ↓reduceIte, get_pushB, get_putB, pickB_t, pickB_f, eqB_t, eqB_f, ltB_t, leB_t, AH.size_push, AH.size_put, AH.ro_push, AH.ro_put]
        try (simp (disch := omega) only [go_sem, Nat.reduceEqDiff, Nat.reduceAdd, ↓reduceIte, get_pushB, get_putB, pickB_t, pickB_f, eqB_t, eqB_f, ltB_t, leB_t, AH.size_push, AH.size_put, AH.ro_push, AH.ro_put, t6, w6])
        refine callW_of (num_ok ..) ?_
        rintro r G7 ⟨rfl, rfl⟩
        simp (disch := omega) only [go_sem, Nat.reduceEqDiff, Nat.reduceAdd, ↓reduceIte, get_pushB, get_putB, pickB_t, pickB_f, eqB_t, eqB_f, ltB_t, leB_t, AH.size_push, AH.size_put, AH.ro_push, AH.ro_put, Int.reduceEq, decide_true, decide_false, ne_eq, not_true_eq_false, not_false_eq_true]
        refine callW_of (EqNumbers_ok G7 yl yl _ _ (Ints.mono (E5.trans E6) hx.ints) hyi) ?_
        rintro r G8 ⟨rfl, rfl⟩
        simp (disch := omega) only [go_sem, Nat.reduceEqDiff, Nat.reduceAdd, ↓reduceIte, get_pushB, get_putB, pickB_t, pickB_f, eqB_t, eqB_f, ltB_t, leB_t, AH.size_push, AH.size_put, AH.ro_push, AH.ro_put, decide_true]
        refine callW_of (num_ok ..) ?_
        rintro r G9 ⟨rfl, rfl⟩
        simp (disch := omega) only [go_sem, Nat.reduceEqDiff, Nat.reduceAdd, ↓reduceIte, get_pushB, get_putB, pickB_t, pickB_f, eqB_t, eqB_f, ltB_t, leB_t, AH.size_push, AH.size_put, AH.ro_push, AH.ro_put, t6, w6, Int.reduceEq, decide_true, decide_false, ne_eq, not_true_eq_false, not_false_eq_true]
        have hTt : TenV G9 _ ([], []) := TenV.mono E6 ⟨_, _, rfl, hud.ints, hux.ints⟩
        have hTd : TenV G9 _ ([], []) := ⟨_, _, rfl, Sl.nil _ _ _, Sl.nil _ _ _⟩
        refine callW_of (EqTensor_ok G9 _ _ _ _ hTt hTd) ?_
        rintro r H1 ⟨rfl, X1⟩
        have t7 := X1.get _ _ t6
        have Y1 := (E4.trans (E5.trans E6)).trans X1
        simp (disch := omega) only [go_sem, Nat.reduceEqDiff, Nat.reduceAdd, ↓reduceIte, get_pushB, get_putB, pickB_t, pickB_f, eqB_t, eqB_f, ltB_t, leB_t, AH.size_push, AH.size_put, AH.ro_push, AH.ro_put, decide_true]
        refine callW_of (EqTensors_ok H1 l l _ _ (Tens.mono Y1 hin) (Tens.mono (F3.trans Y1) hl)) ?_
        rintro r H2 ⟨rfl, X2⟩
        have t8 := X2.get _ _ t7
        have Y2 := Y1.trans X2
        simp (disch := omega) only [go_sem, Nat.reduceEqDiff, Nat.reduceAdd, ↓reduceIte, get_pushB, get_putB, pickB_t, pickB_f, eqB_t, eqB_f, ltB_t, leB_t, AH.size_push, AH.size_put, AH.ro_push, AH.ro_put, decide_true]
        refine callW_of (EqNumbers_ok H2 d d _ _ (Ints.mono Y2 hdin) (Ints.mono (F3.trans Y2) hd)) ?_
        rintro r H3 ⟨rfl, rfl⟩
        simp (disch := omega) only [go_sem, Nat.reduceEqDiff, Nat.reduceAdd, ↓reduceIte, get_pushB, get_putB, pickB_t, pickB_f, eqB_t, eqB_f, ltB_t, leB_t, AH.size_push, AH.size_put, AH.ro_push, AH.ro_put, decide_true]
        have Z := (E5.trans E6).trans (X1.trans X2)
        refine callW_of (Spoil_ok G3 H3 _ _ (hx.ext Z)) ?_
        rintro r H4 ⟨rfl, R⟩
        have t9 := R.get _ _ (Own.off hx (c := G5.size) E5.size) t8
        have Y4 : Ext G3 H4 := R.ext Y2 (fun a n k e => (Own.blk hx a n k e).1)
        have Z4 : Ext G3 G4 := E4
        have hu4 := (hu.ext (E6.trans (X1.trans X2))).rest (G0 := G4) (v := .nilIface) R (fun a n k e => (Own.blk hx a n k e).2)
        simp (disch := omega) only [go_sem, Nat.reduceEqDiff, Nat.reduceAdd, ↓reduceIte, get_pushB, get_putB, pickB_t, pickB_f, eqB_t, eqB_f, ltB_t, leB_t, AH.size_push, AH.size_put, AH.ro_push, AH.ro_put, t9]
        refine callW_of (SpoilT_ok G3 H4 (by omega) Y4 _ _ (hu4.weak E4 (by omega))) ?_
        rintro r H5 ⟨rfl, Y5⟩
        simp (disch := omega) only [go_sem, Nat.reduceEqDiff, Nat.reduceAdd, ↓reduceIte, get_pushB, get_putB, pickB_t, pickB_f, eqB_t, eqB_f, ltB_t, leB_t, AH.size_push, AH.size_put, AH.ro_push, AH.ro_put]
        refine callW_of (EqTensors_ok H5 l l _ _ (Tens.mono Y5 hin) (Tens.mono (F3.trans Y5) hl)) ?_
        rintro r H6 ⟨rfl, X6⟩
        have Y6 := Y5.trans X6
        simp (disch := omega) only [go_sem, Nat.reduceEqDiff, Nat.reduceAdd, ↓reduceIte, get_pushB, get_putB, pickB_t, pickB_f, eqB_t, eqB_f, ltB_t, leB_t, AH.size_push, AH.size_put, AH.ro_push, AH.ro_put, decide_true]
        refine callW_of (EqNumbers_ok H6 d d _ _ (Ints.mono Y6 hdin) (Ints.mono (F3.trans Y6) hd)) ?_
        rintro r H7 ⟨rfl, rfl⟩
        simp (disch := omega) only [go_sem, Nat.reduceEqDiff, Nat.reduceAdd, ↓reduceIte, get_pushB, get_putB, pickB_t, pickB_f, eqB_t, eqB_f, ltB_t, leB_t, AH.size_push, AH.size_put, AH.ro_push, AH.ro_put, decide_true]
        exact F3.trans Y6
  · have hf : formP k n d (l.map (·.1)) = false := by simpa using hf
    have e1 : dimsE k n d (l.map (·.1)) = ([], 1) := by simp [dimsE, hf]
    have e2 : doE val k n d l = (([], []), 1) := by simp [doE, doOk, hf]
    rw [e1] at hx ⊢
    rw [e2] at hu hud hux t6 ⊢
    try (simp (disch := omega) only [go_sem, Nat.reduceEqDiff, Nat.reduceAdd, ↓reduceIte, get_pushB, get_putB, pickB_t, pickB_f, eqB_t, eqB_f, ltB_t, leB_t, AH.size_push, AH.size_put, AH.ro_push, AH.ro_put, t6, w6])
    refine callW_of (num_ok ..) ?_
    rintro r G7 ⟨rfl, rfl⟩
    simp (disch := omega) only [go_sem, Nat.reduceEqDiff, Nat.reduceAdd, ↓reduceIte, get_pushB, get_putB, pickB_t, pickB_f, eqB_t, eqB_f, ltB_t, leB_t, AH.size_push, AH.size_put, AH.ro_push, AH.ro_put, Int.reduceEq, decide_true, decide_false, ne_eq, not_true_eq_false, not_false_eq_true]
    refine callW_of (EqNumbers_ok G7 [] [] _ _ (Ints.mono (E5.trans E6) hx.ints) (Sl.nil _ _ _)) ?_
    rintro r G8 ⟨rfl, rfl⟩
    simp (disch := omega) only [go_sem, Nat.reduceEqDiff, Nat.reduceAdd, ↓reduceIte, get_pushB, get_putB, pickB_t, pickB_f, eqB_t, eqB_f, ltB_t, leB_t, AH.size_push, AH.size_put, AH.ro_push, AH.ro_put, decide_true]
    refine callW_of (num_ok ..) ?_
    rintro r G9 ⟨rfl, rfl⟩
    simp (disch := omega) only [go_sem, Nat.reduceEqDiff, Nat.reduceAdd, ↓reduceIte, get_pushB, get_putB, pickB_t, pickB_f, eqB_t, eqB_f, ltB_t, leB_t, AH.size_push, AH.size_put, AH.ro_push, AH.ro_put, t6, w6, Int.reduceEq, decide_true, decide_false, ne_eq, not_true_eq_false, not_false_eq_true]
    have hTt : TenV G9 _ ([], []) := TenV.mono E6 ⟨_, _, rfl, hud.ints, hux.ints⟩
    have hTd : TenV G9 _ ([], []) := ⟨_, _, rfl, Sl.nil _ _ _, Sl.nil _ _ _⟩
    refine callW_of (EqTensor_ok G9 _ _ _ _ hTt hTd) ?_
    rintro r H1 ⟨rfl, X1⟩
    have t7 := X1.get _ _ t6
    have Y1 := (E4.trans (E5.trans E6)).trans X1
    simp (disch := omega) only [go_sem, Nat.reduceEqDiff, Nat.reduceAdd, ↓reduceIte, get_pushB, get_putB, pickB_t, pickB_f, eqB_t, eqB_f, ltB_t, leB_t, AH.size_push, AH.size_put, AH.ro_push, AH.ro_put, decide_true]
    refine callW_of (EqTensors_ok H1 l l _ _ (Tens.mono Y1 hin) (Tens.mono (F3.trans Y1) hl)) ?_
    rintro r H2 ⟨rfl, X2⟩
    have t8 := X2.get _ _ t7
    have Y2 := Y1.trans X2
    simp (disch := omega) only [go_sem, Nat.reduceEqDiff, Nat.reduceAdd, ↓reduceIte, get_pushB, get_putB, pickB_t, pickB_f, eqB_t, eqB_f, ltB_t, leB_t, AH.size_push, AH.size_put, AH.ro_push, AH.ro_put, decide_true]
    refine callW_of (EqNumbers_ok H2 d d _ _ (Ints.mono Y2 hdin) (Ints.mono (F3.trans Y2) hd)) ?_
    rintro r H3 ⟨rfl, rfl⟩
    simp (disch := omega) only [go_sem, Nat.reduceEqDiff, Nat.reduceAdd, ↓reduceIte, get_pushB, get_putB, pickB_t, pickB_f, eqB_t, eqB_f, ltB_t, leB_t, AH.size_push, AH.size_put, AH.ro_push, AH.ro_put, decide_true]
    have Z := (E5.trans E6).trans (X1.trans X2)
    refine callW_of (Spoil_ok G3 H3 _ _ (hx.ext Z)) ?_
    rintro r H4 ⟨rfl, R⟩
    have t9 := R.get _ _ (Own.off hx (c := G5.size) E5.size) t8
    have Y4 : Ext G3 H4 := R.ext Y2 (fun a n k e => (Own.blk hx a n k e).1)
    have Z4 : Ext G3 G4 := E4
    have hu4 := (hu.ext (E6.trans (X1.trans X2))).rest (G0 := G4) (v := .nilIface) R (fun a n k e => (Own.blk hx a n k e).2)
    simp (disch := omega) only [go_sem, Nat.reduceEqDiff, Nat.reduceAdd, ↓reduceIte, get_pushB, get_putB, pickB_t, pickB_f, eqB_t, eqB_f, ltB_t, leB_t, AH.size_push, AH.size_put, AH.ro_push, AH.ro_put, t9]
    refine callW_of (SpoilT_ok G3 H4 (by omega) Y4 _ _ (hu4.weak E4 (by omega))) ?_
    rintro r H5 ⟨rfl, Y5⟩
    simp (disch := omega) only [go_sem, Nat.reduceEqDiff, Nat.reduceAdd, ↓reduceIte, get_pushB, get_putB, pickB_t, pickB_f, eqB_t, eqB_f, ltB_t, leB_t, AH.size_push, AH.size_put, AH.ro_push, AH.ro_put]
    refine callW_of (EqTensors_ok H5 l l _ _ (Tens.mono Y5 hin) (Tens.mono (F3.trans Y5) hl)) ?_
    rintro r H6 ⟨rfl, X6⟩
    have Y6 := Y5.trans X6
    simp (disch := omega) only [go_sem, Nat.reduceEqDiff, Nat.reduceAdd, ↓reduceIte, get_pushB, get_putB, pickB_t, pickB_f, eqB_t, eqB_f, ltB_t, leB_t, AH.size_push, AH.size_put, AH.ro_push, AH.ro_put, decide_true]
    refine callW_of (EqNumbers_ok H6 d d _ _ (Ints.mono Y6 hdin) (Ints.mono (F3.trans Y6) hd)) ?_
    rintro r H7 ⟨rfl, rfl⟩
    simp (disch := omega) only [go_sem, Nat.reduceEqDiff, Nat.reduceAdd, ↓reduceIte, get_pushB, get_putB, pickB_t, pickB_f, eqB_t, eqB_f, ltB_t, leB_t, AH.size_push, AH.size_put, AH.ro_push, AH.ro_put, decide_true]
    exact F3.trans Y6
end Go.Proofs.K

/- Some kinds, of any tensors, numbers, dims. -/
set_option linter.unusedVariables false
set_option maxRecDepth 8000
set_option maxHeartbeats 4000000
set_option linter.unusedSimpArgs false
namespace Go.Proofs.K
open Go Go.Ab
theorem wakes_ok (H : AH) (h0 : H.ro ≤ H.size) : Runs tb 31 [] H (fun r H' => r = .bool true ∧ Ext H H') := by
  refine Runs_fn (fn := Try.f31) [.tmp 0] [0, 1, 2, 3, 4] [] 3000 (by kernel_rfl) rfl (by kernel_rfl) (by kernel_rfl) rfl ?_; simp only [pad, argAt]
  simp (disch := omega) only [go_sem, Nat.reduceEqDiff, Nat.reduceAdd, ↓reduceIte, get_pushB, get_putB, pickB_t, pickB_f, eqB_t, eqB_f, ltB_t, leB_t, AH.size_push, AH.size_put, AH.ro_push, AH.ro_put, bslice_1 stI (.int .i64 2) rfl]
  refine callW_gen ?_
  intro G hG
  have E1 : Ext H G := by rw [hG]; exact Ext.push _ _
  have hd : Ints G (.slice (some ⟨H.size, 0, none⟩) 1 1) [2] := by rw [hG]; exact (OwnI.fresh H h0 [2] (by simp)).ints
  have r1 := E1.ro
  have s1 := E1.size
  clear hG
  refine callW_of (Do_ok G (by omega) 3 7 [2] [] _ _ hd (Sl.nil _ _ _) (by simp) ([2], [7, 7]) 0 (fun h => by simp [doOk, formP, manyP, numberP, namedP, mayP, okDim, prodL_1] at h) (fun _ _ => by simp [prodL_1]) (fun _ h => absurd rfl h) (fun _ h => absurd rfl h)) ?_
  rintro r G2 ⟨u, rfl, hu, E2⟩
  obtain ⟨ud, ux, rfl, hud, hux, _⟩ := id hu
  obtain ⟨p1, c1, rfl⟩ := hud.ints.inv
  obtain ⟨p2, c2, rfl⟩ := hux.ints.inv
  have F2 := E1.trans E2
  have r2 := F2.ro
  have s2 := F2.size
  simp (disch := omega) only [go_sem, Nat.reduceEqDiff, Nat.reduceAdd, ↓reduceIte, get_pushB, get_putB, pickB_t, pickB_f, eqB_t, eqB_f, ltB_t, leB_t, AH.size_push, AH.size_put, AH.ro_push, AH.ro_put, bslice_2 stI (.int .i64 2) (.int .i64 3) rfl rfl, bslice_2 stI (.int .i64 3) (.int .i64 4) rfl rfl, bslice_2 stII (.slice (some ⟨G2.size + 1, 0, none⟩) 2 1) (.slice (some ⟨G2.size + 1 + 1, 0, none⟩) 2 1) rfl rfl]
  refine callW_gen ?_
  intro G3 hG3
  have E3 : Ext G2 G3 := by rw [hG3]; exact ((((Ext.push _ _).put (Nat.le_refl _) (by simp only [AH.size_push]; omega) _).pushed _).pushed _).pushed _
  have t3 : G3.get G2.size = some [.slice p1 1 c1, .slice p2 2 c2] := by rw [hG3]; (try simp (disch := omega) only [get_pushB, get_putB, pickB_t, pickB_f, eqB_t, eqB_f, ltB_t, AH.size_push, AH.size_put, AH.ro_push, AH.ro_put]); rfl
  have a3 : G3.get (G2.size + 1) = some [.int .i64 2, .int .i64 3] := by rw [hG3]; (try simp (disch := omega) only [get_pushB, get_putB, pickB_t, pickB_f, eqB_t, eqB_f, ltB_t, AH.size_push, AH.size_put, AH.ro_push, AH.ro_put])
  have b3 : G3.get (G2.size + 1 + 1) = some [.int .i64 3, .int .i64 4] := by rw [hG3]; (try simp (disch := omega) only [get_pushB, get_putB, pickB_t, pickB_f, eqB_t, eqB_f, ltB_t, AH.size_push, AH.size_put, AH.ro_push, AH.ro_put])
  have c3 : G3.get (G2.size + 1 + 1 + 1) = some [.slice (some ⟨G2.size + 1, 0, none⟩) 2 1, .slice (some ⟨G2.size + 1 + 1, 0, none⟩) 2 1] := by rw [hG3]; (try simp (disch := omega) only [get_pushB, get_putB, pickB_t, pickB_f, eqB_t, eqB_f, ltB_t, AH.size_push, AH.size_put, AH.ro_push, AH.ro_put])
  have z3 : G3.size = G2.size + 4 := by rw [hG3]; (try simp (disch := omega) only [get_pushB, get_putB, pickB_t, pickB_f, eqB_t, eqB_f, ltB_t, AH.size_push, AH.size_put, AH.ro_push, AH.ro_put])
  have F3 := F2.trans E3
  have r3 := F3.ro
  have s3 := F3.size
  have ha : Ints G3 (.slice (some ⟨G2.size + 1, 0, none⟩) 2 1) [2, 3] := (show OwnI H G3 _ [2, 3] from Own.mk _ 2 _ (by omega) h0 (by omega) a3 rfl (by omega)).ints
  have hb : Ints G3 (.slice (some ⟨G2.size + 1 + 1, 0, none⟩) 2 1) [3, 4] := (show OwnI H G3 _ [3, 4] from Own.mk _ 2 _ (by omega) h0 (by omega) b3 rfl (by omega)).ints
  have hl : Intss G3 (.slice (some ⟨G2.size + 1 + 1 + 1, 0, none⟩) 2 1) [[2, 3], [3, 4]] := by
    refine Own.sl (H0 := H) (Own.mk _ 2 _ (by omega) h0 (by omega) c3 rfl (by omega)) rfl fun i x hx => ?_
    match i, hx with
    | 0, hx => simp at hx; subst hx; exact ⟨_, rfl, ha⟩
    | 1, hx => simp at hx; subst hx; exact ⟨_, rfl, hb⟩
  refine callW_of (Dims_ok G3 (by omega) 9 0 [] [[2, 3], [3, 4]] _ _ (Sl.nil _ _ _) hl) ?_
  rintro r G4 ⟨x, rfl, hx, E4⟩
  have hdE : dimsE 9 0 [] [[2, 3], [3, 4]] = ([2, 4], 0) := by
    have m1 : mayP [2, 3] = true := mayP_two (by omega) (by omega)
    have m2 : mayP [3, 4] = true := mayP_two (by omega) (by omega)
    simp [dimsE, formP, manyP, numberP, namedP, m1, m2, dimsP, gi]
  rw [hdE] at hx ⊢
  obtain ⟨px, cx, rfl⟩ := hx.ints.inv
  have F4 := F3.trans E4
  have r4 := F4.ro
  have s4 := F4.size
  have t4 := E4.get _ _ t3
  simp (disch := omega) only [go_sem, Nat.reduceEqDiff, Nat.reduceAdd, ↓reduceIte, get_pushB, get_putB, pickB_t, pickB_f, eqB_t, eqB_f, ltB_t, leB_t, AH.size_push, AH.size_put, AH.ro_push, AH.ro_put]
  refine callW_of (num_ok ..) ?_
  rintro r G5 ⟨rfl, rfl⟩
  simp (disch := omega) only [go_sem, Nat.reduceEqDiff, Nat.reduceAdd, ↓reduceIte, get_pushB, get_putB, pickB_t, pickB_f, eqB_t, eqB_f, ltB_t, leB_t, AH.size_push, AH.size_put, AH.ro_push, AH.ro_put, Int.reduceEq, decide_true, decide_false]
  refine callW_of (num_ok ..) ?_
  rintro r G6 ⟨rfl, rfl⟩
  have hx2 : Ints G6 (.slice p2 2 c2) [7, 7] := Ints.mono (E3.trans E4) hux.ints
  simp (disch := omega) only [go_sem, Nat.reduceEqDiff, Nat.reduceAdd, ↓reduceIte, get_pushB, get_putB, pickB_t, pickB_f, eqB_t, eqB_f, ltB_t, leB_t, AH.size_push, AH.size_put, AH.ro_push, AH.ro_put, Int.reduceEq, decide_true, decide_false, t4, bslice_2 stI (.int .i64 7) (.int .i64 7) rfl rfl]
  have K1 := Ext.push G6 [.int .i64 7, .int .i64 7]
  have h77 := (OwnI.fresh G6 (by omega) [7, 7] (by simp)).ints
  have hx2 := Ints.mono K1 hx2
  have hxx := Ints.mono K1 hx.ints
  have ro7 : (G6.push [.int .i64 7, .int .i64 7]).ro ≤ (G6.push [.int .i64 7, .int .i64 7]).size := by simp only [AH.ro_push, AH.size_push]; omega
  refine callW_of (EqNumbers_ok _ [7, 7] [7, 7] _ _ hx2 h77) ?_
  rintro r G7 ⟨rfl, rfl⟩
  simp (disch := omega) only [go_sem, Nat.reduceEqDiff, Nat.reduceAdd, ↓reduceIte, get_pushB, get_putB, pickB_t, pickB_f, eqB_t, eqB_f, ltB_t, leB_t, AH.size_push, AH.size_put, AH.ro_push, AH.ro_put, Int.reduceEq, decide_true, decide_false, bslice_2 stI (.int .i64 2) (.int .i64 4) rfl rfl]
  have K2 := Ext.push (G6.push [.int .i64 7, .int .i64 7]) [.int .i64 2, .int .i64 4]
  have h24 := (OwnI.fresh _ ro7 [2, 4] (by simp)).ints
  refine callW_of (EqNumbers_ok _ [2, 4] [2, 4] _ _ (Ints.mono K2 hxx) h24) ?_
  rintro r G8 ⟨rfl, rfl⟩
  simp (disch := omega) only [go_sem, Nat.reduceEqDiff, Nat.reduceAdd, ↓reduceIte, get_pushB, get_putB, pickB_t, pickB_f, eqB_t, eqB_f, ltB_t, leB_t, AH.size_push, AH.size_put, AH.ro_push, AH.ro_put, Int.reduceEq, decide_true, decide_false]
  exact (F4.trans K1).trans K2
end Go.Proofs.K

/- Some kinds, of any tensors, numbers, dims. -/
set_option linter.unusedVariables false
set_option maxRecDepth 8000
set_option maxHeartbeats 4000000
set_option linter.unusedSimpArgs false
namespace Go.Proofs.K
open Go Go.Ab
theorem Intss_raw {H H1 : AH} (hE : Ext H H1) {a : Option Addr} {n c : Nat} {l : List (List Int)} (h : Intss H (.slice a n c) l) : ∃ us : List Value, us.length = n ∧ afirst 1 n (.slice a n c) H1 = some us ∧ ∀ (i : Nat) (u : Value) (x : List Int), us[i]? = some u → l[i]? = some x → Ints H u x := by
  obtain ⟨hn, hw, hc⟩ := h.of
  have hb := h.bd
  have hraw : Sl 1 (fun _ f u => f 0 = some u) H (.slice a n c) ((List.range n).map fun i => (Ab.cell H a c i 0).getD undef) := by
    refine ⟨by simp; omega, a, c, by simp, by simpa [hn] using hw, fun i x hx => ?_⟩
    have hi := (List.getElem?_eq_some_iff.1 hx).1
    simp at hi
    obtain ⟨y, hy, u, hu, _⟩ := h.at_ i (by omega)
    simp [hi] at hx
    subst hx
    simp [hu]
  have hraw1 := Sl.mono (fun f g x hk hr => hk 0 _ hr) hE hraw
  have hf : ∀ (x : Value) (g : Nat → Option Value), g 0 = some x → [x].length = 1 ∧ ∀ k, k < 1 → g k = [x][k]? := fun x g hg => ⟨rfl, fun k hk => by
    obtain rfl : k = 0 := by omega
    simpa using hg⟩
  refine ⟨(List.range n).map fun i => (Ab.cell H a c i 0).getD undef, by simp, ?_, fun i u x hu hx => ?_⟩
  · rw [afirst_sl hraw1 (fun u => [u]) hf]
    congr 1
    rw [List.flatMap_singleton']
  · have hi := (List.getElem?_eq_some_iff.1 hu).1
    simp at hi
    obtain ⟨w, hw, hr⟩ := hc i x hx
    simp [hi, hw] at hu
    subst hu
    exact hr
theorem kinds_ok (H : AH) (h0 : H.ro ≤ H.size) (p : Ask) (vt vn vd vk : Value) (h : AskV H vt vn vd vk p) (ks : List Int) (vks : Value) (hks : Ints H vks ks) (hk : ∀ k ∈ ks, ∃ val, KindOk k val) :
    Runs tb 22 [.agg #[vt, vn, vd, vk], vks] H (fun r H' => r = .bool true ∧ Ext H H') := by
  obtain ⟨pt, ct, rfl⟩ := h.t.inv
  obtain ⟨pn, cn, rfl⟩ := h.n.inv
  obtain ⟨pd, cd, rfl⟩ := h.d.inv
  obtain ⟨pk, ck, rfl⟩ := h.k.inv
  obtain ⟨ps, cs, rfl⟩ := hks.inv
  refine Runs_fn (fn := Try.f22) [.tmp 4] [0, 1, 2, 4, 5, 6, 7, 8, 9, 10, 11] [] 3000 (by kernel_rfl) rfl (by kernel_rfl) (by kernel_rfl) rfl ?_; simp only [pad, argAt]
  simp (disch := omega) only [go_sem, Nat.reduceEqDiff, Nat.reduceAdd, ↓reduceIte, get_pushB, get_putB, pickB_t, pickB_f, eqB_t, eqB_f, ltB_t, leB_t, AH.size_push, AH.size_put, AH.ro_push, AH.ro_put]
  refine callW_gen ?_
  intro G hG
  have E1 : Ext H G := by rw [hG]; exact Ext.push _ _
  have g0 : G.get H.size = some [.slice pt p.T.length ct, .slice pn p.N.length cn, .slice pd p.D.length cd, .slice pk p.K.length ck] := by rw [hG]; (try simp (disch := omega) only [get_pushB, get_putB, pickB_t, pickB_f, eqB_t, eqB_f, ltB_t, AH.size_push, AH.size_put, AH.ro_push, AH.ro_put])
  have z1 : G.size = H.size + 1 := by rw [hG]; rfl
  clear hG
  have r1 := E1.ro
  refine callW_of (Heavy_ok G p _ _ _ _ (h.mono E1)) ?_
  rintro r G2 ⟨b, rfl, hb, E2⟩
  have F2 := E1.trans E2
  have r2 := F2.ro
  have s2 := F2.size
  have s21 := E2.size
  have g2 := E2.get _ _ g0
  simp (disch := omega) only [go_sem, Nat.reduceEqDiff, Nat.reduceAdd, ↓reduceIte, get_pushB, get_putB, pickB_t, pickB_f, eqB_t, eqB_f, ltB_t, leB_t, AH.size_push, AH.size_put, AH.ro_push, AH.ro_put]
  refine Split.mk (fun hbb => ?_) (fun hbb => ?_)
  · simp (disch := omega) only [go_sem, Nat.reduceEqDiff, Nat.reduceAdd, ↓reduceIte, get_pushB, get_putB, pickB_t, pickB_f, eqB_t, eqB_f, ltB_t, leB_t, AH.size_push, AH.size_put, AH.ro_push, AH.ro_put]
    exact F2
  · obtain ⟨⟨bT, bT2⟩, bN, ⟨bD, bD2⟩, bK⟩ := hb (by simpa using hbb)
    have h02 : G2.ro ≤ G2.size := by omega
    have P1 := Ext.push G2 [.int .i64 2, .int .i64 3]
    have h23 := OwnI.fresh G2 h02 [2, 3] (by simp)
    have P2 := P1.pushed [.slice none 0 0, .slice (some ⟨G2.size, 0, none⟩) 2 1]
    have o1 : Own G2 ((G2.push [.int .i64 2, .int .i64 3]).push [.slice none 0 0, .slice (some ⟨G2.size, 0, none⟩) 2 1]) 1 (.slice (some ⟨G2.size + 1, 0, none⟩) 2 1) 2 [.slice none 0 0, .slice (some ⟨G2.size, 0, none⟩) 2 1] :=
      Own.mk _ 2 _ (by omega) h02 rfl (by (try simp (disch := omega) only [get_pushB, get_putB, pickB_t, pickB_f, eqB_t, eqB_f, ltB_t, AH.size_push, AH.size_put, AH.ro_push, AH.ro_put])) rfl (by omega)
    have hD2 := Intss.mono (F2.trans P2) h.d
    obtain ⟨us, hul, huf, hui⟩ := Intss_raw P2 (Intss.mono F2 h.d)
    obtain ⟨vds, G4, e4, o4, E4, s4, r4, k4, _⟩ := Own.append_off stII o1 h02 P2 (x := .slice pd p.D.length cd) (m := p.D.length) rfl huf (by omega) (by omega)
    have g23 : G4.get G2.size = some [.int .i64 2, .int .i64 3] := k4 _ _ (fun a n k e => by cases e; simp) (by (try simp (disch := omega) only [get_pushB, get_putB, pickB_t, pickB_f, eqB_t, eqB_f, ltB_t, AH.size_push, AH.size_put, AH.ro_push, AH.ro_put]))
    have hDs : Intss G4 vds ([] :: [2, 3] :: p.D) := Own.sl o4 (by simp; omega) fun i x hx => by
      match i, hx with
      | 0, hx => simp at hx; subst hx; exact ⟨_, rfl, Sl.nil _ _ _⟩
      | 1, hx => simp at hx; subst hx; exact ⟨_, rfl, (show OwnI G2 G4 _ [2, 3] from Own.mk _ 2 _ (Nat.le_refl _) h02 r4 g23 rfl (by omega)).ints⟩
      | i + 2, hx =>
        simp at hx
        have hi := (List.getElem?_eq_some_iff.1 hx).1
        have hu : us[i]? = some (us[i]'(by omega)) := List.getElem?_eq_getElem _
        refine ⟨us[i]'(by omega), ?_, Ints.mono E4 (hui i _ x hu hx)⟩
        simp [List.getElem?_append_right]
    simp only [AH.size_push, AH.ro_push] at s4 r4
    have P5 := Ext.push G4 [.int .i64 0, .int .i64 2, .int .i64 3]
    have o5 : OwnI G4 (G4.push [.int .i64 0, .int .i64 2, .int .i64 3]) (.slice (some ⟨G4.size, 0, none⟩) 3 1) [0, 2, 3] := OwnI.fresh G4 (by omega) [0, 2, 3] (by simp)
    obtain ⟨vns, G6, e6, o6, E6⟩ := OwnI.app o5 (by omega) P5 (x := .slice pn p.N.length cn) (m := p.N) rfl (Ints.first (Ints.mono (F2.trans (E4.trans P5)) h.n)) (by simp; omega)
    have hNs : Ints G6 vns (0 :: 2 :: 3 :: p.N) := o6.ints
    have g4 := E4.get _ _ g2
    have g6 := E6.get _ _ g4
    have hDs := Intss.mono E6 hDs
    have F6 := F2.trans (E4.trans E6)
    have r6 := F6.ro
    have s6 := F6.size
    obtain ⟨qd, dd, rfl⟩ := hDs.inv
    obtain ⟨qn, dn, rfl⟩ := hNs.inv
    simp (disch := omega) only [go_sem, Nat.reduceEqDiff, Nat.reduceAdd, ↓reduceIte, get_pushB, get_putB, pickB_t, pickB_f, eqB_t, eqB_f, ltB_t, leB_t, AH.size_push, AH.size_put, AH.ro_push, AH.ro_put, bslice_2 stI (.int .i64 2) (.int .i64 3) rfl rfl, bslice_2 stII (.slice none 0 0) (.slice (some ⟨G2.size, 0, none⟩) 2 1) rfl rfl, g2, e4]
    simp (disch := omega) only [go_sem, Nat.reduceEqDiff, Nat.reduceAdd, ↓reduceIte, get_pushB, get_putB, pickB_t, pickB_f, eqB_t, eqB_f, ltB_t, leB_t, AH.size_push, AH.size_put, AH.ro_push, AH.ro_put, bslice_3 stI (.int .i64 0) (.int .i64 2) (.int .i64 3) rfl rfl rfl, g4, e6]
    clear hbb hb
    have hDb : ∀ x ∈ ([] :: [2, 3] :: p.D), x.length ≤ 1000 := by
      intro x hx
      simp only [List.mem_cons] at hx
      rcases hx with rfl | rfl | hx
      · simp
      · simp
      · have := bD2 x hx; omega
    have hNl : (0 :: 2 :: 3 :: p.N).length ≤ 1000 := by simp; omega
    have hDl : ([] :: [2, 3] :: p.D).length ≤ 1000 := by simp; omega
    generalize (0 :: 2 :: 3 :: p.N) = NS at *
    generalize ([] :: [2, 3] :: p.D) = DS at *
    have hTb : p.T.length ≤ 1000000000000 ∧ ∀ t ∈ p.T, t.1.length ≤ 1000000000000 ∧ t.2.length ≤ 1000000000000 := ⟨by omega, fun t ht => by have := bT2 t ht; omega⟩
    have hsub : ∀ a : Nat, ((p.T.drop a).take (a + 1 - a)).length ≤ 1000000000000 ∧ ∀ t ∈ (p.T.drop a).take (a + 1 - a), t.1.length ≤ 1000000000000 ∧ t.2.length ≤ 1000000000000 := fun a =>
      ⟨by simp; omega, fun t ht => hTb.2 t (List.mem_of_mem_drop (List.mem_of_mem_take ht))⟩
    have hT6 := Tens.mono F6 h.t
    have hK6 := Ints.mono F6 hks
    have hKk : ∀ k : Nat, k < ks.length → ∃ val, KindOk (gi ks k) val := fun k hk1 => hk _ (by rw [gi_eq hk1]; exact List.getElem_mem _)
    have hro : ∀ G, Ext G6 G → G.ro ≤ G.size := fun G hE => by
      have := hE.ro
      have := hE.size
      omega
    have hTn := h.t.bd
    have hKn := hks.bd
    clear hk hks hul huf hui e4 o4 e6 o6 P5 o5 P2 o1 hD2 h23 P1 us g0 g2 g4
    refine Sat_loop 3000 (fun z H' V => ∃ (k : Nat) (x8 x9 x10 x11 : Value), k ≤ ks.length ∧ z = ks.length - k ∧ Ext G6 H' ∧ V = [.agg #[.slice pt p.T.length ct, .slice pn p.N.length cn, .slice pd p.D.length cd, .slice pk p.K.length ck], .slice ps ks.length cs, .pointer (some ⟨H.size, 0, none⟩), .bool false, .slice qd _ dd, .slice qn _ dn, .int .i64 k, x8, x9, x10, x11]) ks.length ⟨0, _, _, _, _, by omega, by omega, Ext.refl _, rfl⟩ ?_
    rintro z H' V ⟨k, x8, x9, x10, x11, hk1, rfl, hE, rfl⟩ ih1
    simp (disch := omega) only [go_sem, Nat.reduceEqDiff, Nat.reduceAdd, ↓reduceIte]
    refine Split.mk (fun hk2 => ?_) (fun hk2 => ?_)
    · have hk3 : k < ks.length := by omega
      obtain ⟨val, hv⟩ := hKk k hk3
      simp (disch := omega) only [go_sem, Nat.reduceEqDiff, Nat.reduceAdd, ↓reduceIte]
      refine Sat_loop 3000 (fun z H2 V => ∃ (i : Nat) (x9 x10 x11 : Value), i ≤ DS.length ∧ z = DS.length - i ∧ Ext G6 H2 ∧ V = [.agg #[.slice pt p.T.length ct, .slice pn p.N.length cn, .slice pd p.D.length cd, .slice pk p.K.length ck], .slice ps ks.length cs, .pointer (some ⟨H.size, 0, none⟩), .bool false, .slice qd _ dd, .slice qn _ dn, .int .i64 k, .int .i64 i, x9, x10, x11]) DS.length ⟨0, _, _, _, by omega, by omega, hE, rfl⟩ ?_
      clear hE
      rintro z H2 V ⟨i, x9, x10, x11, hi1, rfl, hE, rfl⟩ ih2
      simp (disch := omega) only [go_sem, Nat.reduceEqDiff, Nat.reduceAdd, ↓reduceIte]
      refine SplitG.mk (fun hi2 => ?_) (fun hi2 => ?_)
      · simp (disch := omega) only [go_sem, Nat.reduceEqDiff, Nat.reduceAdd, ↓reduceIte]
        refine Split.mk (fun hi3 => ?_) (fun hi3 => ?_)
        · have hi4 : i < DS.length := by omega
          simp (disch := omega) only [go_sem, Nat.reduceEqDiff, Nat.reduceAdd, ↓reduceIte]
          refine Sat_loop 3000 (fun z H3 V => ∃ (j : Nat) (x10 x11 : Value), j ≤ NS.length ∧ z = NS.length - j ∧ Ext G6 H3 ∧ V = [.agg #[.slice pt p.T.length ct, .slice pn p.N.length cn, .slice pd p.D.length cd, .slice pk p.K.length ck], .slice ps ks.length cs, .pointer (some ⟨H.size, 0, none⟩), .bool false, .slice qd _ dd, .slice qn _ dn, .int .i64 k, .int .i64 i, .int .i64 j, x10, x11]) NS.length ⟨0, _, _, by omega, by omega, hE, rfl⟩ ?_
          clear hE
          rintro z H3 V ⟨j, x10, x11, hj1, rfl, hE, rfl⟩ ih3
          simp (disch := omega) only [go_sem, Nat.reduceEqDiff, Nat.reduceAdd, ↓reduceIte]
          refine SplitG.mk (fun hj2 => ?_) (fun hj2 => ?_)
          · simp (disch := omega) only [go_sem, Nat.reduceEqDiff, Nat.reduceAdd, ↓reduceIte]
            refine Split.mk (fun hj3 => ?_) (fun hj3 => ?_)
            · have hj4 : j < NS.length := by omega
              obtain ⟨vdi, edi, hdi⟩ := ldII hDs i hi4
              have hdb := hDb _ (List.getElem_mem hi4)
              simp (disch := omega) only [go_sem, Nat.reduceEqDiff, Nat.reduceAdd, ↓reduceIte, ixI (Ints.mono hE hK6), ldI (Ints.mono hE hK6), ixI (Ints.mono hE hNs), ldI (Ints.mono hE hNs), ixII (Intss.mono hE hDs), aload_ext hE edi]
              refine callW_of (each_ok hv H3 (hro _ hE) (gi NS j) DS[i] [] _ _ (Ints.mono hE hdi) (Sl.nil _ _ _) (by simp) (by omega)) ?_
              rintro r H4 ⟨rfl, hE4⟩
              have hE := hE.trans hE4
              simp (disch := omega) only [go_sem, Nat.reduceEqDiff, Nat.reduceAdd, ↓reduceIte]
              refine Sat_loop 3000 (fun z H5 V => ∃ (a : Nat) (x11 : Value), a ≤ p.T.length ∧ z = p.T.length - a ∧ Ext G6 H5 ∧ V = [.agg #[.slice pt p.T.length ct, .slice pn p.N.length cn, .slice pd p.D.length cd, .slice pk p.K.length ck], .slice ps ks.length cs, .pointer (some ⟨H.size, 0, none⟩), .bool false, .slice qd _ dd, .slice qn _ dn, .int .i64 k, .int .i64 i, .int .i64 j, .int .i64 a, x11]) p.T.length ⟨0, _, by omega, by omega, hE, rfl⟩ ?_
              clear hE hE4
              rintro z H5 V ⟨a, x11, ha1, rfl, hE, rfl⟩ ih4
              have g5 := hE.get _ _ g6
              simp (disch := omega) only [go_sem, Nat.reduceEqDiff, Nat.reduceAdd, ↓reduceIte, get_pushB, get_putB, pickB_t, pickB_f, eqB_t, eqB_f, ltB_t, leB_t, AH.size_push, AH.size_put, AH.ro_push, AH.ro_put, g5]
              refine SplitG.mk (fun ha2 => ?_) (fun ha2 => ?_)
              · simp (disch := omega) only [go_sem, Nat.reduceEqDiff, Nat.reduceAdd, ↓reduceIte, get_pushB, get_putB, pickB_t, pickB_f, eqB_t, eqB_f, ltB_t, leB_t, AH.size_push, AH.size_put, AH.ro_push, AH.ro_put, g5]
                refine Split.mk (fun ha3 => ?_) (fun ha3 => ?_)
                · have ha4 : a < p.T.length := by omega
                  have hT := Tens.mono hE hT6
                  obtain ⟨sa, sc, es, hs⟩ := Sl.sub hT ty22 rfl ty32 rfl (some (.int .i64 a)) (some (.int .i64 (a + 1))) a (a + 1) (by simp [abound]; omega) (by simp [abound]; omega)
                  have hsb := hsub a
                  obtain ⟨vd, vx, e0, e1, hd, hx⟩ := ldT2 hT a ha4
                  obtain ⟨pd0, cd0, rfl⟩ := hd.inv
                  obtain ⟨px0, cx0, rfl⟩ := hx.inv
                  obtain ⟨vt, et, ht⟩ := ldT hT a ha4
                  have f0 := (faT hT a (by omega)).1
                  simp (disch := omega) only [go_sem, Nat.reduceEqDiff, Nat.reduceAdd, ↓reduceIte, get_pushB, get_putB, pickB_t, pickB_f, eqB_t, eqB_f, ltB_t, leB_t, AH.size_push, AH.size_put, AH.ro_push, AH.ro_put, g5, ixI (Ints.mono hE hK6), ldI (Ints.mono hE hK6), ixI (Ints.mono hE hNs), ldI (Ints.mono hE hNs), ixII (Intss.mono hE hDs), aload_ext hE edi, es]
                  refine callW_of (each_ok hv H5 (hro _ hE) (gi NS j) DS[i] _ _ _ (Ints.mono hE hdi) hs hsb (by omega)) ?_
                  rintro r H6 ⟨rfl, hE6⟩
                  have hEE := hE
                  have hE := hE.trans hE6
                  have g7 := hE.get _ _ g6
                  simp (disch := omega) only [go_sem, Nat.reduceEqDiff, Nat.reduceAdd, ↓reduceIte, get_pushB, get_putB, pickB_t, pickB_f, eqB_t, eqB_f, ltB_t, leB_t, AH.size_push, AH.size_put, AH.ro_push, AH.ro_put, g7, ixT (Tens.mono hE6 hT), aload_ext hE6 et]
                  refine callW_of (RefTensor_ok H6 _ _ (TenV.mono hE6 ht)) ?_
                  rintro r H7 ⟨rfl, hE7⟩
                  have hE8 := hE.trans hE7
                  have g8 := hE8.get _ _ g6
                  have hT8 := Tens.mono hE8 hT6
                  simp (disch := omega) only [go_sem, Nat.reduceEqDiff, Nat.reduceAdd, ↓reduceIte, get_pushB, get_putB, pickB_t, pickB_f, eqB_t, eqB_f, ltB_t, leB_t, AH.size_push, AH.size_put, AH.ro_push, AH.ro_put]
                  refine SplitG.mk (fun hc1 => ?_) (fun hc1 => ?_)
                  · simp (disch := omega) only [go_sem, Nat.reduceEqDiff, Nat.reduceAdd, ↓reduceIte, get_pushB, get_putB, pickB_t, pickB_f, eqB_t, eqB_f, ltB_t, leB_t, AH.size_push, AH.size_put, AH.ro_push, AH.ro_put, g8, ixI (Ints.mono hE8 hK6), ldI (Ints.mono hE8 hK6), ixI (Ints.mono hE8 hNs), ldI (Ints.mono hE8 hNs), ixT hT8, f0, aload_ext (hE6.trans hE7) e0, es]
                    refine callW_of (each_ok hv H7 (hro _ hE8) (gi NS j) p.T[a].1 _ _ _ (Ints.mono (hE6.trans hE7) hd) (Tens.mono (hE6.trans hE7) hs) hsb (hTb.2 _ (List.getElem_mem _)).1) ?_
                    rintro r H8 ⟨rfl, hE9⟩
                    have hE9 := hE8.trans hE9
                    simp (disch := omega) only [go_sem, Nat.reduceEqDiff, Nat.reduceAdd, ↓reduceIte, get_pushB, get_putB, pickB_t, pickB_f, eqB_t, eqB_f, ltB_t, leB_t, AH.size_push, AH.size_put, AH.ro_push, AH.ro_put]
                    have g10 := hE9.get _ _ g6
                    have hX := hE9
                    refine Sat_loop 3000 (fun z Hb V => ∃ (b : Nat), b ≤ p.T.length ∧ z = p.T.length - b ∧ Ext G6 Hb ∧ V = [.agg #[.slice pt p.T.length ct, .slice pn p.N.length cn, .slice pd p.D.length cd, .slice pk p.K.length ck], .slice ps ks.length cs, .pointer (some ⟨H.size, 0, none⟩), .bool false, .slice qd _ dd, .slice qn _ dn, .int .i64 k, .int .i64 i, .int .i64 j, .int .i64 a, .int .i64 b]) p.T.length ⟨0, by omega, by omega, hX, rfl⟩ ?_
                    rintro z Hb V ⟨b, hb1, rfl, hEb, rfl⟩ ih5
                    have gb := hEb.get _ _ g6
                    simp (disch := omega) only [go_sem, Nat.reduceEqDiff, Nat.reduceAdd, ↓reduceIte, get_pushB, get_putB, pickB_t, pickB_f, eqB_t, eqB_f, ltB_t, leB_t, AH.size_push, AH.size_put, AH.ro_push, AH.ro_put, gb]
                    refine SplitG.mk (fun hb2 => ?_) (fun hb2 => ?_)
                    · simp (disch := omega) only [go_sem, Nat.reduceEqDiff, Nat.reduceAdd, ↓reduceIte, get_pushB, get_putB, pickB_t, pickB_f, eqB_t, eqB_f, ltB_t, leB_t, AH.size_push, AH.size_put, AH.ro_push, AH.ro_put, gb]
                      refine Split.mk (fun hb3 => ?_) (fun hb3 => ?_)
                      · have hb4 : b < p.T.length := by omega
                        have hTB := Tens.mono hEb hT6
                        obtain ⟨va, ea, ad, ax, rfl, had, hax⟩ := ldT hTB a ha4
                        obtain ⟨vb, eb, bd, bx, rfl, hbd, hbx⟩ := ldT hTB b hb4
                        simp (disch := omega) only [go_sem, Nat.reduceEqDiff, Nat.reduceAdd, ↓reduceIte, get_pushB, get_putB, pickB_t, pickB_f, eqB_t, eqB_f, ltB_t, leB_t, AH.size_push, AH.size_put, AH.ro_push, AH.ro_put, gb, ixI (Ints.mono hEb hK6), ldI (Ints.mono hEb hK6), ixI (Ints.mono hEb hNs), ldI (Ints.mono hEb hNs), ixII (Intss.mono hEb hDs), aload_ext hEb edi, ixT hTB, ea, eb, bslice_2' stT ad ax bd bx]
                        have PX := Ext.push Hb [ad, ax, bd, bx]
                        have hrb := hro Hb hEb
                        have hTT : Tens (Hb.push [ad, ax, bd, bx]) (.slice (some ⟨Hb.size, 0, none⟩) 2 2) [p.T[a], p.T[b]] := by
                          refine Own.sl (H0 := Hb) (Own.mk Hb.size 2 [ad, ax, bd, bx] (Nat.le_refl _) hrb rfl (by (try simp (disch := omega) only [get_pushB, get_putB, pickB_t, pickB_f, eqB_t, eqB_f, ltB_t, AH.size_push, AH.size_put, AH.ro_push, AH.ro_put])) rfl (by omega)) rfl fun q x hx => ?_
                          match q, hx with
                          | 0, hx => simp at hx; subst hx; exact ⟨_, _, rfl, rfl, Ints.mono PX had, Ints.mono PX hax⟩
                          | 1, hx => simp at hx; subst hx; exact ⟨_, _, rfl, rfl, Ints.mono PX hbd, Ints.mono PX hbx⟩
                        refine callW_of (each_ok hv _ (by simp only [AH.ro_push, AH.size_push]; omega) (gi NS j) DS[i] [p.T[a], p.T[b]] _ _ (Ints.mono (hEb.trans PX) hdi) hTT ⟨by simp, fun t ht => hTb.2 t (by simp only [List.mem_cons, List.not_mem_nil, or_false] at ht; rcases ht with rfl | rfl <;> exact List.getElem_mem _)⟩ (by omega)) ?_
                        rintro r Hc ⟨rfl, hEc⟩
                        simp (disch := omega) only [go_sem, Nat.reduceEqDiff, Nat.reduceAdd, ↓reduceIte, get_pushB, get_putB, pickB_t, pickB_f, eqB_t, eqB_f, ltB_t, leB_t, AH.size_push, AH.size_put, AH.ro_push, AH.ro_put]
                        refine ih5 _ _ _ ?_ ⟨b + 1, by omega, rfl, (hEb.trans PX).trans hEc, rfl⟩
                        omega
                      · simp (disch := omega) only [go_sem, Nat.reduceEqDiff, Nat.reduceAdd, ↓reduceIte, get_pushB, get_putB, pickB_t, pickB_f, eqB_t, eqB_f, ltB_t, leB_t, AH.size_push, AH.size_put, AH.ro_push, AH.ro_put]
                        refine ih4 _ _ _ ?_ ⟨a + 1, _, by omega, rfl, hEb, rfl⟩
                        omega
                    · simp (disch := omega) only [go_sem, Nat.reduceEqDiff, Nat.reduceAdd, ↓reduceIte, get_pushB, get_putB, pickB_t, pickB_f, eqB_t, eqB_f, ltB_t, leB_t, AH.size_push, AH.size_put, AH.ro_push, AH.ro_put]
                      refine ih4 _ _ _ ?_ ⟨a + 1, _, by omega, rfl, hEb, rfl⟩
                      omega
                  · simp (disch := omega) only [go_sem, Nat.reduceEqDiff, Nat.reduceAdd, ↓reduceIte, get_pushB, get_putB, pickB_t, pickB_f, eqB_t, eqB_f, ltB_t, leB_t, AH.size_push, AH.size_put, AH.ro_push, AH.ro_put]
                    have hX := hE8
                    refine Sat_loop 3000 (fun z Hb V => ∃ (b : Nat), b ≤ p.T.length ∧ z = p.T.length - b ∧ Ext G6 Hb ∧ V = [.agg #[.slice pt p.T.length ct, .slice pn p.N.length cn, .slice pd p.D.length cd, .slice pk p.K.length ck], .slice ps ks.length cs, .pointer (some ⟨H.size, 0, none⟩), .bool false, .slice qd _ dd, .slice qn _ dn, .int .i64 k, .int .i64 i, .int .i64 j, .int .i64 a, .int .i64 b]) p.T.length ⟨0, by omega, by omega, hX, rfl⟩ ?_
                    rintro z Hb V ⟨b, hb1, rfl, hEb, rfl⟩ ih5
                    have gb := hEb.get _ _ g6
                    simp (disch := omega) only [go_sem, Nat.reduceEqDiff, Nat.reduceAdd, ↓reduceIte, get_pushB, get_putB, pickB_t, pickB_f, eqB_t, eqB_f, ltB_t, leB_t, AH.size_push, AH.size_put, AH.ro_push, AH.ro_put, gb]
                    refine SplitG.mk (fun hb2 => ?_) (fun hb2 => ?_)
                    · simp (disch := omega) only [go_sem, Nat.reduceEqDiff, Nat.reduceAdd, ↓reduceIte, get_pushB, get_putB, pickB_t, pickB_f, eqB_t, eqB_f, ltB_t, leB_t, AH.size_push, AH.size_put, AH.ro_push, AH.ro_put, gb]
                      refine Split.mk (fun hb3 => ?_) (fun hb3 => ?_)
                      · have hb4 : b < p.T.length := by omega
                        have hTB := Tens.mono hEb hT6
                        obtain ⟨va, ea, ad, ax, rfl, had, hax⟩ := ldT hTB a ha4
                        obtain ⟨vb, eb, bd, bx, rfl, hbd, hbx⟩ := ldT hTB b hb4
                        simp (disch := omega) only [go_sem, Nat.reduceEqDiff, Nat.reduceAdd, ↓reduceIte, get_pushB, get_putB, pickB_t, pickB_f, eqB_t, eqB_f, ltB_t, leB_t, AH.size_push, AH.size_put, AH.ro_push, AH.ro_put, gb, ixI (Ints.mono hEb hK6), ldI (Ints.mono hEb hK6), ixI (Ints.mono hEb hNs), ldI (Ints.mono hEb hNs), ixII (Intss.mono hEb hDs), aload_ext hEb edi, ixT hTB, ea, eb, bslice_2' stT ad ax bd bx]
                        have PX := Ext.push Hb [ad, ax, bd, bx]
                        have hrb := hro Hb hEb
                        have hTT : Tens (Hb.push [ad, ax, bd, bx]) (.slice (some ⟨Hb.size, 0, none⟩) 2 2) [p.T[a], p.T[b]] := by
                          refine Own.sl (H0 := Hb) (Own.mk Hb.size 2 [ad, ax, bd, bx] (Nat.le_refl _) hrb rfl (by (try simp (disch := omega) only [get_pushB, get_putB, pickB_t, pickB_f, eqB_t, eqB_f, ltB_t, AH.size_push, AH.size_put, AH.ro_push, AH.ro_put])) rfl (by omega)) rfl fun q x hx => ?_
                          match q, hx with
                          | 0, hx => simp at hx; subst hx; exact ⟨_, _, rfl, rfl, Ints.mono PX had, Ints.mono PX hax⟩
                          | 1, hx => simp at hx; subst hx; exact ⟨_, _, rfl, rfl, Ints.mono PX hbd, Ints.mono PX hbx⟩
                        refine callW_of (each_ok hv _ (by simp only [AH.ro_push, AH.size_push]; omega) (gi NS j) DS[i] [p.T[a], p.T[b]] _ _ (Ints.mono (hEb.trans PX) hdi) hTT ⟨by simp, fun t ht => hTb.2 t (by simp only [List.mem_cons, List.not_mem_nil, or_false] at ht; rcases ht with rfl | rfl <;> exact List.getElem_mem _)⟩ (by omega)) ?_
                        rintro r Hc ⟨rfl, hEc⟩
                        simp (disch := omega) only [go_sem, Nat.reduceEqDiff, Nat.reduceAdd, ↓reduceIte, get_pushB, get_putB, pickB_t, pickB_f, eqB_t, eqB_f, ltB_t, leB_t, AH.size_push, AH.size_put, AH.ro_push, AH.ro_put]
                        refine ih5 _ _ _ ?_ ⟨b + 1, by omega, rfl, (hEb.trans PX).trans hEc, rfl⟩
                        omega
                      · simp (disch := omega) only [go_sem, Nat.reduceEqDiff, Nat.reduceAdd, ↓reduceIte, get_pushB, get_putB, pickB_t, pickB_f, eqB_t, eqB_f, ltB_t, leB_t, AH.size_push, AH.size_put, AH.ro_push, AH.ro_put]
                        refine ih4 _ _ _ ?_ ⟨a + 1, _, by omega, rfl, hEb, rfl⟩
                        omega
                    · simp (disch := omega) only [go_sem, Nat.reduceEqDiff, Nat.reduceAdd, ↓reduceIte, get_pushB, get_putB, pickB_t, pickB_f, eqB_t, eqB_f, ltB_t, leB_t, AH.size_push, AH.size_put, AH.ro_push, AH.ro_put]
                      refine ih4 _ _ _ ?_ ⟨a + 1, _, by omega, rfl, hEb, rfl⟩
                      omega
                · simp (disch := omega) only [go_sem, Nat.reduceEqDiff, Nat.reduceAdd, ↓reduceIte, get_pushB, get_putB, pickB_t, pickB_f, eqB_t, eqB_f, ltB_t, leB_t, AH.size_push, AH.size_put, AH.ro_push, AH.ro_put]
                  refine ih3 _ _ _ ?_ ⟨j + 1, _, _, by omega, rfl, hE, rfl⟩
                  omega
              · simp (disch := omega) only [go_sem, Nat.reduceEqDiff, Nat.reduceAdd, ↓reduceIte, get_pushB, get_putB, pickB_t, pickB_f, eqB_t, eqB_f, ltB_t, leB_t, AH.size_push, AH.size_put, AH.ro_push, AH.ro_put]
                refine ih3 _ _ _ ?_ ⟨j + 1, _, _, by omega, rfl, hE, rfl⟩
                omega
            · simp (disch := omega) only [go_sem, Nat.reduceEqDiff, Nat.reduceAdd, ↓reduceIte, get_pushB, get_putB, pickB_t, pickB_f, eqB_t, eqB_f, ltB_t, leB_t, AH.size_push, AH.size_put, AH.ro_push, AH.ro_put]
              refine ih2 _ _ _ ?_ ⟨i + 1, _, _, _, by omega, rfl, hE, rfl⟩
              omega
          · simp (disch := omega) only [go_sem, Nat.reduceEqDiff, Nat.reduceAdd, ↓reduceIte, get_pushB, get_putB, pickB_t, pickB_f, eqB_t, eqB_f, ltB_t, leB_t, AH.size_push, AH.size_put, AH.ro_push, AH.ro_put]
            refine ih2 _ _ _ ?_ ⟨i + 1, _, _, _, by omega, rfl, hE, rfl⟩
            omega
        · simp (disch := omega) only [go_sem, Nat.reduceEqDiff, Nat.reduceAdd, ↓reduceIte, get_pushB, get_putB, pickB_t, pickB_f, eqB_t, eqB_f, ltB_t, leB_t, AH.size_push, AH.size_put, AH.ro_push, AH.ro_put]
          refine ih1 _ _ _ ?_ ⟨k + 1, _, _, _, _, by omega, rfl, hE, rfl⟩
          omega
      · simp (disch := omega) only [go_sem, Nat.reduceEqDiff, Nat.reduceAdd, ↓reduceIte, get_pushB, get_putB, pickB_t, pickB_f, eqB_t, eqB_f, ltB_t, leB_t, AH.size_push, AH.size_put, AH.ro_push, AH.ro_put]
        refine ih1 _ _ _ ?_ ⟨k + 1, _, _, _, _, by omega, rfl, hE, rfl⟩
        omega
    · simp (disch := omega) only [go_sem, Nat.reduceEqDiff, Nat.reduceAdd, ↓reduceIte, get_pushB, get_putB, pickB_t, pickB_f, eqB_t, eqB_f, ltB_t, leB_t, AH.size_push, AH.size_put, AH.ro_push, AH.ro_put]
      refine callW_of (wakes_ok H' (hro _ hE)) ?_
      rintro r H2 ⟨rfl, hE2⟩
      simp (disch := omega) only [go_sem, Nat.reduceEqDiff, Nat.reduceAdd, ↓reduceIte, get_pushB, get_putB, pickB_t, pickB_f, eqB_t, eqB_f, ltB_t, leB_t, AH.size_push, AH.size_put, AH.ro_push, AH.ro_put]
      exact F6.trans (hE.trans hE2)
end Go.Proofs.K

/- Fill, in the document; the kinds in, param, fill. -/
set_option linter.unusedVariables false
set_option maxRecDepth 8000
set_option maxHeartbeats 4000000
set_option linter.unusedSimpArgs false
namespace Go.Proofs.K
open Go Go.Ab
theorem abTd (p : Option Addr) (n c : Nat) : abuild tb 32 [(0, .slice p n c)] = some (.agg #[.slice p n c, .slice none 0 0]) := by kernel_rfl
theorem RefFill_ok (H : AH) (h0 : H.ro ≤ H.size) (d : List Int) (n : Int) (v : Value) (h : Ints H v d) (hm : mayP d = true) : Runs tb 88 [v, .int .i64 n] H (fun r H' => OwnTD H H' r (d, List.replicate (prodL d).toNat n) ∧ Ext H H') := by
  have hp := prodL_pos hm
  obtain ⟨m1, m2, _, _⟩ := mayP_spec hm
  obtain ⟨pd, cd, rfl⟩ := h.inv
  refine Runs_fn (fn := Try.f88) [.cell 4 32] [0, 1, 4, 5, 6] [] 3000 (by kernel_rfl) rfl (by kernel_rfl) (by kernel_rfl) rfl ?_; simp only [pad, argAt]
  simp (disch := omega) only [go_sem, Nat.reduceEqDiff, Nat.reduceAdd, ↓reduceIte, get_pushB, get_putB, pickB_t, pickB_f, eqB_t, eqB_f, ltB_t, leB_t, AH.size_push, AH.size_put, AH.ro_push, AH.ro_put]
  refine callW_gen ?_
  intro G hG
  have hE : Ext H G := by rw [hG]; exact Ext.push _ _
  have hs : G.size = H.size + 1 := by rw [hG]; rfl
  have g0 : G.get H.size = some [.slice none 0 0, .slice none 0 0] := by rw [hG]; (try simp (disch := omega) only [get_pushB, get_putB, pickB_t, pickB_f, eqB_t, eqB_f, ltB_t, AH.size_push, AH.size_put, AH.ro_push, AH.ro_put])
  have hr := hE.ro
  clear hG
  refine callW_of (CopyNumbers_ok G (by omega) d _ (Ints.mono hE h) (by omega)) ?_
  rintro r G1 ⟨ho1, hE1⟩
  obtain ⟨p1, c1, rfl⟩ := ho1.ints.inv
  have hr1 := hE1.ro
  have hs1 := hE1.size
  have hb1 : ∀ a n k, Value.slice p1 d.length c1 = .slice (some a) n k → a.block < G1.size := fun a n k e => (Own.blk ho1 a n k e).2
  simp (disch := omega) only [go_sem, Nat.reduceEqDiff, Nat.reduceAdd, ↓reduceIte, get_pushB, get_putB, pickB_t, pickB_f, eqB_t, eqB_f, ltB_t, leB_t, AH.size_push, AH.size_put, AH.ro_push, AH.ro_put, abTd]
  refine Sat_gen ?_
  intro G2 hG2
  have hE2 : Ext G1 G2 := by rw [hG2]; exact (Ext.push _ _).put (Nat.le_refl _) (by simp only [AH.size_push]; omega) _
  have hs2 : G2.size = G1.size + 1 := by rw [hG2]; rfl
  have k1 : G2.get G1.size = some [.slice p1 d.length c1, .slice none 0 0] := by rw [hG2]; (try simp (disch := omega) only [get_pushB, get_putB, pickB_t, pickB_f, eqB_t, eqB_f, ltB_t, AH.size_push, AH.size_put, AH.ro_push, AH.ro_put])
  have k0 : G2.get H.size = some [.slice none 0 0, .slice none 0 0] := hE2.get _ _ (hE1.get _ _ g0)
  have hr2 := hE2.ro
  clear hG2
  generalize hN : (prodL d).toNat = N at *
  refine Sat_loop 3000 (fun k H' V => ∃ (i : Nat) (m : Value), i ≤ N ∧ k = N - i ∧ Fr G1.size G2 H' ∧ OwnI G H' m (List.replicate i n) ∧ (∀ c, c < G2.size → Off c m) ∧ H'.get G1.size = some [.slice p1 d.length c1, m] ∧ V = [.slice pd d.length cd, .int .i64 n, .pointer (some ⟨H.size, 0, none⟩), .pointer (some ⟨G1.size, 0, none⟩), .int .i64 i]) N ⟨0, _, by omega, by omega, Fr.refl _ _, OwnI.nil _ _, fun c _ a n k e => (by cases e), k1, rfl⟩ ?_
  rintro k H' V ⟨i, m, hi, rfl, hF, ho, hof, j1, rfl⟩ ih
  obtain ⟨pm, cm, rfl⟩ := ho.ints.inv
  have hEH := hF.ext ((hE.trans hE1).trans hE2) (by omega)
  have hEG := hF.ext (hE1.trans hE2) (by omega)
  have hsF := hF.size
  have hrF := hF.ro
  simp (disch := omega) only [go_sem, Nat.reduceEqDiff, Nat.reduceAdd, ↓reduceIte, get_pushB, get_putB, pickB_t, pickB_f, eqB_t, eqB_f, ltB_t, leB_t, AH.size_push, AH.size_put, AH.ro_push, AH.ro_put]
  refine callW_of (Cells_ok H' d _ (Ints.mono hEH h)) ?_
  rintro r H1 ⟨rfl, rfl⟩
  simp (disch := omega) only [go_sem, Nat.reduceEqDiff, Nat.reduceAdd, ↓reduceIte, get_pushB, get_putB, pickB_t, pickB_f, eqB_t, eqB_f, ltB_t, leB_t, AH.size_push, AH.size_put, AH.ro_push, AH.ro_put]
  refine Split.mk (fun h1 => ?_) (fun h1 => ?_)
  · have hP := Ext.push H1 [.int .i64 n]
    obtain ⟨m', H2, e, ho2, hE3, s3, r3, k3, of3⟩ := Own.append_off stI (ho.ext hP) (by omega) (hEG.trans hP) (x := .slice (some ⟨H1.size, 0, none⟩) 1 1) (m := 1) rfl (afirst_block (ys := [.int .i64 n]) (by (try simp (disch := omega) only [get_pushB, get_putB, pickB_t, pickB_f, eqB_t, eqB_f, ltB_t, AH.size_push, AH.size_put, AH.ro_push, AH.ro_put])) rfl) rfl (by simp; omega)
    simp only [AH.size_push, AH.ro_push] at s3 r3 of3
    have j2 : H2.get G1.size = some [.slice p1 d.length c1, .slice pm (List.replicate i n).length cm] := k3 _ _ (hof _ (by omega)) (by simp (disch := omega) only [go_sem, Nat.reduceEqDiff, Nat.reduceAdd, ↓reduceIte, get_pushB, get_putB, pickB_t, pickB_f, eqB_t, eqB_f, ltB_t, leB_t, AH.size_push, AH.size_put, AH.ro_push, AH.ro_put, j1])
    obtain ⟨pm', cm', rfl⟩ := (show OwnI G H2 m' (List.replicate (i + 1) n) by unfold OwnI; rw [List.replicate_succ']; simpa using ho2).ints.inv
    simp (disch := omega) only [go_sem, Nat.reduceEqDiff, Nat.reduceAdd, ↓reduceIte, get_pushB, get_putB, pickB_t, pickB_f, eqB_t, eqB_f, ltB_t, leB_t, AH.size_push, AH.size_put, AH.ro_push, AH.ro_put, j1, bslice_1 stI (.int .i64 n) rfl, e, j2]
    have hoN : OwnI G H2 (.slice pm' (List.replicate (i + 1) n).length cm') (List.replicate (i + 1) n) := by unfold OwnI; rw [List.replicate_succ']; simpa using ho2
    have ofN : ∀ c, c < G2.size → Off c (.slice pm' (List.replicate (i + 1) n).length cm') := fun c hc => of3 c (by omega) (hof c hc)
    refine ih _ _ _ ?_ ⟨i + 1, _, ?_, rfl, ?_, Own.fr hoN (Fr.put G1.size H2 (by omega) _) (ofN _ (by omega)), ofN, ?_, rfl⟩
    · omega
    · omega
    · refine ⟨by simp only [AH.size_put]; omega, by simp only [AH.ro_put]; omega, fun c x hc hx => ?_⟩
      rw [get_put_ne hc]
      exact k3 c x (hof c (AH.lt_of_get hx)) (hP.get _ _ (hF.get c x hc hx))
    · (try simp (disch := omega) only [get_pushB, get_putB, pickB_t, pickB_f, eqB_t, eqB_f, ltB_t, AH.size_push, AH.size_put, AH.ro_push, AH.ro_put])
  · have hiN : i = N := by omega
    subst hiN
    have j0 := hF.get _ _ (by omega) k0
    simp (disch := omega) only [go_sem, Nat.reduceEqDiff, Nat.reduceAdd, ↓reduceIte, get_pushB, get_putB, pickB_t, pickB_f, eqB_t, eqB_f, ltB_t, leB_t, AH.size_push, AH.size_put, AH.ro_push, AH.ro_put, j1, j0]
    have hd2 : OwnI G H1 (.slice p1 d.length c1) d := Own.fr (ho1.ext hE2) hF (fun a n k e => by have := hb1 a n k e; omega)
    have hT : OwnTD G H1 (.agg #[.slice p1 d.length c1, .slice pm (List.replicate i n).length cm]) (d, List.replicate i n) := ⟨_, _, rfl, hd2, ho, fun a n k e => hof _ (by have := hb1 a n k e; omega)⟩
    exact ⟨hT.out hE h0 (by omega) _, hEH.put (Nat.le_refl _) (by omega) _⟩
theorem doOk_form {k n : Int} {d : List Int} {l : List Ten} (h : doOk k n d l = true) : k ≠ 1 ∧ k ≠ 2 ∧ l.all isT = true ∧ formP k n d (l.map (·.1)) = true ∧ (l.length : Int) = manyP k := by
  simp only [doOk, Bool.and_eq_true, Bool.not_eq_true', decide_eq_false_iff_not] at h
  have := (formP_spec h.2).2.1
  rw [List.length_map] at this
  exact ⟨h.1.1.1, h.1.1.2, h.1.2, h.2, this⟩
theorem KindOk1 : KindOk 1 (fun _ _ _ => []) where
  fill h := by omega
  two n d l h := absurd rfl (doOk_form h).1
  one n d l h := absurd rfl (doOk_form h).1
  ref n d l x h := absurd rfl (doOk_form h).1
theorem KindOk2 : KindOk 2 (fun _ _ _ => []) where
  fill h := by omega
  two n d l h := absurd rfl (doOk_form h).2.1
  one n d l h := absurd rfl (doOk_form h).2.1
  ref n d l x h := absurd rfl (doOk_form h).2.1
theorem KindOk3 : KindOk 3 (fun n d _ => List.replicate (prodL d).toNat n) where
  fill _ _ _ _ := rfl
  two n d l h hl := by have := (doOk_form h).2.2.2.2; simp [manyP] at this; subst this; cases hl
  one n d l h hl := by have := (doOk_form h).2.2.2.2; simp [manyP] at this; subst this; cases hl
  ref n d l x h hx G vd vl h0 hd hl := by
    have hm : mayP d = true := by simpa [namedP] using (formP_spec (doOk_form h).2.2.2.1).2.2.2.2
    have : d = x := by simpa [dimsP] using hx
    subst this
    refine Runs_fn (fn := Try.f48) [.cell 8 32] [0, 1, 2, 3, 8, 9] [(19, [(5, 1)])] 3000 (by kernel_rfl) rfl (by kernel_rfl) (by kernel_rfl) rfl ?_; simp only [pad, argAt]
    simp (disch := omega) only [go_sem, Nat.reduceEqDiff, Nat.reduceAdd, ↓reduceIte, get_pushB, get_putB, pickB_t, pickB_f, eqB_t, eqB_f, ltB_t, leB_t, AH.size_push, AH.size_put, AH.ro_push, AH.ro_put, Int.reduceEq, decide_true, decide_false]
    refine callW_gen ?_
    intro G1 hG
    have hE : Ext G G1 := by rw [hG]; exact Ext.push _ _
    have g0 : G1.get G.size = some [.slice none 0 0, .slice none 0 0] := by rw [hG]; (try simp (disch := omega) only [get_pushB, get_putB, pickB_t, pickB_f, eqB_t, eqB_f, ltB_t, AH.size_push, AH.size_put, AH.ro_push, AH.ro_put])
    have hs : G1.size = G.size + 1 := by rw [hG]; rfl
    have hr := hE.ro
    clear hG
    refine callW_of (RefFill_ok G1 (by omega) d n vd (Ints.mono hE hd) hm) ?_
    rintro r H1 ⟨hot, hE1⟩
    obtain ⟨vu, wu, rfl, hu1, hu2, _⟩ := id hot
    obtain ⟨pu, cu, rfl⟩ := hu1.ints.inv
    obtain ⟨pw, cw, rfl⟩ := hu2.ints.inv
    have q0 := hE1.get _ _ g0
    have hr1 := hE1.ro
    have hs1 := hE1.size
    simp (disch := omega) only [go_sem, Nat.reduceEqDiff, Nat.reduceAdd, ↓reduceIte, get_pushB, get_putB, pickB_t, pickB_f, eqB_t, eqB_f, ltB_t, leB_t, AH.size_push, AH.size_put, AH.ro_push, AH.ro_put, q0]
    exact ⟨hot.out hE h0 (by omega) _, (hE.trans hE1).put (Nat.le_refl _) (by omega) _⟩
end Go.Proofs.K

/- What the laws' argument stands for. -/
set_option linter.unusedVariables false
set_option maxRecDepth 8000
set_option maxHeartbeats 4000000
set_option linter.unusedSimpArgs false
namespace Go.Proofs.K
open Go Go.Ab
section
variable {n : Nat} {H : AH} {f : Nat → Option Value} {d : Dt}
theorem repI (h : Rep tb (n + 2) 23 H f d) : ∃ v, f 0 = some v ∧ Ints H v d.ints := rep_ints ty23 rfl ty3 rfl rfl h
theorem repII (h : Rep tb (n + 3) 26 H f d) : ∃ v, f 0 = some v ∧ Intss H v (d.toL.map Dt.ints) := by
  obtain ⟨v, h1, _, h2⟩ := rep_slice ty26 rfl ty23 h
  exact ⟨v, h1, h2.conv Dt.ints fun f x hx => repI hx⟩
theorem repT (h : Rep tb (n + 3) 32 H f d) : ∃ vd vx t, f 0 = some vd ∧ f 1 = some vx ∧ Ints H vd t.1 ∧ Ints H vx t.2 ∧ t = (((d.toL[0]?).getD (Dt.b true)).ints, ((d.toL[1]?).getD (Dt.b true)).ints) := by
  obtain ⟨x, hx, h0⟩ := rep_field ty32 rfl h 0 (ft := 23) (fo := 0) (by kernel_rfl)
  obtain ⟨y, hy, h1⟩ := rep_field ty32 rfl h 1 (ft := 23) (fo := 1) (by kernel_rfl)
  obtain ⟨v, e1, i1⟩ := repI h0
  obtain ⟨w, e2, i2⟩ := repI h1
  exact ⟨v, w, (x.ints, y.ints), e1, e2, i1, i2, by simp [hx, hy]⟩
def tenD (d : Dt) : Ten := (((d.toL[0]?).getD (Dt.b true)).ints, ((d.toL[1]?).getD (Dt.b true)).ints)
theorem repTs (h : Rep tb (n + 4) 22 H f d) : ∃ v, f 0 = some v ∧ Tens H v (d.toL.map tenD) := by
  obtain ⟨v, h1, _, h2⟩ := rep_slice ty22 rfl ty32 h
  refine ⟨v, h1, h2.conv tenD fun f x hx => ?_⟩
  obtain ⟨vd, vx, t, a, b, c, e, rfl⟩ := repT hx
  exact ⟨vd, vx, a, b, c, e⟩
theorem repAsk {xs : List Value} (hl : xs.length = 4) (h : Rep tb (n + 6) 28 H (fun k => xs[k]?) d) : ∃ vt vn vd vk p, xs = [vt, vn, vd, vk] ∧ AskV H vt vn vd vk p := by
  obtain ⟨r, _, hr⟩ := rep_field ty28 rfl h 0 (ft := 25) (fo := 0) (by kernel_rfl)
  obtain ⟨x, _, hx⟩ := rep_field ty28 rfl h 1 (ft := 26) (fo := 2) (by kernel_rfl)
  obtain ⟨y, _, hy⟩ := rep_field ty28 rfl h 2 (ft := 23) (fo := 3) (by kernel_rfl)
  obtain ⟨t, _, ht⟩ := rep_field ty25 rfl hr 0 (ft := 22) (fo := 0) (by kernel_rfl)
  obtain ⟨m, _, hm⟩ := rep_field ty25 rfl hr 1 (ft := 23) (fo := 1) (by kernel_rfl)
  obtain ⟨vt, e1, i1⟩ := repTs ht
  obtain ⟨vn, e2, i2⟩ := repI hm
  obtain ⟨vd, e3, i3⟩ := repII hx
  obtain ⟨vk, e4, i4⟩ := repI hy
  match xs, hl with
  | [a, b, c, e], _ =>
    simp at e1 e2 e3 e4
    subst e1; subst e2; subst e3; subst e4
    exact ⟨_, _, _, _, ⟨_, _, _, _⟩, rfl, ⟨i1, i2, i3, i4⟩⟩
end
end Go.Proofs.K
