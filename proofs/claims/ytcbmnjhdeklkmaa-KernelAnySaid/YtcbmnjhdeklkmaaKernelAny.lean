/- For every input the law KernelAny answers true, and its argument reads as before. -/
import Derived.Test.YtcbmnjhdeklkmaaP4
import Derived.Test.YtcbmnjhdeklkmaaO8
import Derived.Test.YtcbmnjhdeklkmaaRows
import Derived.WalkKit
import Derived.ProofKit
import Derived.OpenShut
import Derived.ShutString
import Derived.ChangeOld
import Derived.Below
import Derived.SizedLaws
import Derived.Carry
set_option linter.unusedVariables false
set_option maxRecDepth 8000
set_option maxHeartbeats 4000000
set_option linter.unusedSimpArgs false
namespace Go.Proofs.K
open Go Go.Ab
theorem KernelAny_ok (H : AH) (h0 : H.ro ≤ H.size) (p : Ask) (vt vn vd vk : Value) (h : AskV H vt vn vd vk p) (hkb : p.K.length * 8 ≤ reachBytes) : Runs tb 3 [.agg #[vt, vn, vd, vk]] H (fun r _ => r = .bool true) := by
  obtain ⟨pt, ct, rfl⟩ := h.t.inv
  obtain ⟨pn, cn, rfl⟩ := h.n.inv
  obtain ⟨pd, cd, rfl⟩ := h.d.inv
  obtain ⟨pk, ck, rfl⟩ := h.k.inv
  have hrb : reachBytes = 140737488351232 := rfl
  rw [hrb] at hkb
  have P0 : Ext H (H.push [.slice pt p.T.length ct, .slice pn p.N.length cn, .slice pd p.D.length cd, .slice pk p.K.length ck]) := Ext.push _ _
  have q0 : (H.push [.slice pt p.T.length ct, .slice pn p.N.length cn, .slice pd p.D.length cd, .slice pk p.K.length ck]).get H.size = some [.slice pt p.T.length ct, .slice pn p.N.length cn, .slice pd p.D.length cd, .slice pk p.K.length ck] := by (try simp (disch := omega) only [get_pushB, get_putB, pickB_t, pickB_f, eqB_t, eqB_f, ltB_t, AH.size_push, AH.size_put, AH.ro_push, AH.ro_put])
  have z0 : (H.push [.slice pt p.T.length ct, .slice pn p.N.length cn, .slice pd p.D.length cd, .slice pk p.K.length ck]).size = H.size + 1 := rfl
  have w0 : (H.push [.slice pt p.T.length ct, .slice pn p.N.length cn, .slice pd p.D.length cd, .slice pk p.K.length ck]).ro = H.ro := rfl
  refine Runs_fn (fn := Try.f3) [.tmp 2] [0, 1, 2, 3] [] 3000 (by kernel_rfl) rfl (by kernel_rfl) (by kernel_rfl) rfl ?_; simp only [pad, argAt]
  simp (disch := omega) only [go_sem, Nat.reduceEqDiff, Nat.reduceAdd, ↓reduceIte, get_pushB, get_putB, pickB_t, pickB_f, eqB_t, eqB_f, ltB_t, leB_t, AH.size_push, AH.size_put, AH.ro_push, AH.ro_put]
  generalize H.push [.slice pt p.T.length ct, .slice pn p.N.length cn, .slice pd p.D.length cd, .slice pk p.K.length ck] = Hb at *
  have P1 := Ext.push Hb [.int .i64 (-1), .int .i64 0, .int .i64 18]
  have o1 : OwnI Hb (Hb.push [.int .i64 (-1), .int .i64 0, .int .i64 18]) (.slice (some ⟨Hb.size, 0, none⟩) 3 1) [-1, 0, 18] := OwnI.fresh Hb (by omega) [-1, 0, 18] (by simp)
  obtain ⟨v, G, e, ho, hE⟩ := OwnI.appB o1 (by omega) P1 (x := .slice pk p.K.length ck) (m := p.K) rfl (Ints.first (Ints.mono (P0.trans P1) h.k)) (by simp; omega)
  rw [z0] at e
  have hi : Ints G v (-1 :: 0 :: 18 :: p.K) := OwnI.ints ho
  obtain ⟨pv, cv, rfl⟩ := hi.inv
  have g0 := hE.get _ _ q0
  have hr := hE.ro
  have hs := hE.size
  have hEG := P0.trans hE
  have hkd : ∀ (l : List Int), ∀ k ∈ l, ∃ val, KindOk k val := fun l k _ => let ⟨val, h⟩ := KindAll k; ⟨val, h.ok⟩
  simp (disch := omega) only [go_sem, Nat.reduceEqDiff, Nat.reduceAdd, ↓reduceIte, get_pushB, get_putB, pickB_t, pickB_f, eqB_t, eqB_f, ltB_t, leB_t, AH.size_push, AH.size_put, AH.ro_push, AH.ro_put, bslice_3 stI (.int .i64 (-1)) (.int .i64 0) (.int .i64 18) rfl rfl rfl, q0, e]
  generalize (-1 :: 0 :: 18 :: p.K) = ks at *
  refine Split.mk (fun h7 => ?_) (fun h7 => ?_)
  · obtain ⟨sa, sc, es, hs7⟩ := Sl.sub hi ty23 rfl ty3 rfl none (some (.int .i64 7)) 0 7 (by simp [abound]; omega) (by simp [abound])
    simp (disch := omega) only [go_sem, Nat.reduceEqDiff, Nat.reduceAdd, ↓reduceIte, get_pushB, get_putB, pickB_t, pickB_f, eqB_t, eqB_f, ltB_t, leB_t, AH.size_push, AH.size_put, AH.ro_push, AH.ro_put, es, g0]
    refine callW_of (kinds_ok G (by omega) p _ _ _ _ (h.mono hEG) _ _ hs7 (hkd _)) ?_
    rintro r G2 ⟨rfl, hE2⟩
    simp (disch := omega) only [go_sem, Nat.reduceEqDiff, Nat.reduceAdd, ↓reduceIte, get_pushB, get_putB, pickB_t, pickB_f, eqB_t, eqB_f, ltB_t, leB_t, AH.size_push, AH.size_put, AH.ro_push, AH.ro_put]
  · simp (disch := omega) only [go_sem, Nat.reduceEqDiff, Nat.reduceAdd, ↓reduceIte, get_pushB, get_putB, pickB_t, pickB_f, eqB_t, eqB_f, ltB_t, leB_t, AH.size_push, AH.size_put, AH.ro_push, AH.ro_put, g0]
    refine callW_of (kinds_ok G (by omega) p _ _ _ _ (h.mono hEG) _ _ hi (hkd _)) ?_
    rintro r G2 ⟨rfl, hE2⟩
    simp (disch := omega) only [go_sem, Nat.reduceEqDiff, Nat.reduceAdd, ↓reduceIte, get_pushB, get_putB, pickB_t, pickB_f, eqB_t, eqB_f, ltB_t, leB_t, AH.size_push, AH.size_put, AH.ro_push, AH.ro_put]
end Go.Proofs.K
namespace Go.Proofs.Ytcbmnjhdeklkmaa.kernelAny
open Go.ChangeShapes Go.WideShapes Go.ChangeAt Go.RowKit
theorem own : ownKnob Try.prog.godebug = none := by kernel_rfl
theorem laidOut : laidOutB Try.prog = true := by kernel_rfl
set_option maxRecDepth 100000 in
theorem lifted (os : Os) (started : os.Started) (H : Type) (enc : TypeId × Value → H) :
    ReturnsInHanded {} Try.checked os 3 .any (Rows.kernelAnySpec.pre6 enc Try.prog Try.f3 Rows.kernelAnyRow.domain false) (Rows.kernelAnySpec.post enc Try.prog Try.f3 false true false false) := by
  refine returnsInHanded_of_change_sized (C := Try.checked) own started (by kernel_rfl) Try.func3
    (ChangeSpec.witness6 (enc := enc) (C := Try.checked) false ⟨#[], #[.agg #[.slice none 0 0, .slice none 0 0, .slice none 0 0, .slice none 0 0]], []⟩ 8 (by kernel_rfl) (by kernel_rfl) (by kernel_rfl) (by kernel_rfl)) ?_
  intro W base args ds gs before hval0 hW hcnd hsz0 _
  have hsz : (DataW.weightsEach Try.prog (Try.f3.params.toList ++ Rows.kernelAnySpec.plain.varTypes Try.prog) (ds ++ gs)).all (· ≤ reachBytes) = true := hsz0
  have hval : ∀ (j : Nat) t v, Try.f3.params[j]? = some t → args[j]? = some v → Value.okWide Try.prog W .any base t v := hval0
  have hW' := hW
  obtain ⟨p, q, hA0, hV, rfl, hfz, hnd⟩ := hW
  have hA : DataW.TrodAll enc Try.prog W 0 (fun _ => true) true Try.f3.params.toList args.toList ds p := hA0
  rw [Try.params3] at hA hval hsz
  obtain ⟨v0, vs0, d0, ds0, p0, q0, hargs, rfl, rfl, h0, r0⟩ := trodAll_cons hA
  obtain ⟨rfl, rfl, rfl⟩ := trodAll_nil r0
  obtain rfl : args = #[v0] := by cases args; simp_all
  obtain ⟨rfl, rfl⟩ := trodVars_none hV
  have k0 := h0
  have lt0 : ∀ x ∈ p0, x.block < W.heap.size := by obtain ⟨m, hm⟩ := k0; exact DataW.trod_lt m _ _ _ hm
  obtain ⟨cs, rfl, hcs⟩ := okWide_struct Try.underlying28 (hval 0 28 v0 rfl rfl)
  have hw : ∀ n ∈ d0.weights Try.prog 28, n ≤ reachBytes := fun n hn => by
    have := List.all_eq_true.1 hsz n (DataW.weights_mem_each (j := 0) rfl rfl n hn)
    simpa using this
  clear hA0 hval0 hsz0 hsz
  refine (Ab.law_calls (m := 8) K.tb_ok (fun _ => rfl) K.ty28 hcs (by kernel_rfl) k0 hw fun H xs dt hro hxl hr => ?_).mono fun e W' ⟨he, bel⟩ => ?_
  · obtain ⟨vt, vn, vd, vk, a, rfl, ha, hkb⟩ := K.repAskK hxl hr
    exact K.KernelAny_ok H (by omega) a vt vn vd vk ha hkb
  subst he
  exact ⟨_, rfl, _, _, _, [], _, [], hW', trodAll_mk1 (shut_bool Try.underlying4 _), (trodAll_cons_mk (Below.trod laidOut (by kernel_rfl) (of_decide_eq_true (by kernel_rfl)) k0 bel lt0) trodAll_mk0), rfl, bel.frame _, fun h => by cases h⟩
theorem over : Rows.kernelAnyRow.holds Try.pinned (OpenSpec.ofChange Rows.kernelAnySpec) :=
  OpenClaim.holds_of_wide 3 Try.f3 rfl rfl rfl rfl rfl rfl rfl ⟨rfl, rfl, rfl, rfl, rfl⟩ rfl rfl rfl rfl rfl (by kernel_rfl) Try.func3 (by kernel_rfl)
    (of_decide_eq_true (by kernel_rfl)) (by unfold Func.isWrapper; first | (rw [if_pos (by decide +kernel)]; kernel_rfl) | (rw [if_neg (by decide +kernel)]; exact ⟨rfl, rfl⟩))
    (fun os started H enc _ => lifted os started H enc)
end Go.Proofs.Ytcbmnjhdeklkmaa.kernelAny
namespace Go.Proofs.Ytcbmnjhdeklkmaa
theorem kernelAny_holds : Rows.KernelAnySaid := kernelAny.over
#print axioms kernelAny_holds
end Go.Proofs.Ytcbmnjhdeklkmaa
