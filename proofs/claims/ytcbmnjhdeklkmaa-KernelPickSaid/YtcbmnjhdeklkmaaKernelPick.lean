/- For every input the law KernelPick answers true, and its argument reads as before. -/
import Derived.Test.YtcbmnjhdeklkmaaP4
import Derived.Test.YtcbmnjhdeklkmaaO7
import Derived.Test.YtcbmnjhdeklkmaaRows
import Derived.WalkKit
import Derived.ProofKit
import Derived.OpenShut
import Derived.ShutString
import Derived.ChangeOld
import Derived.Below
import Derived.SizedLaws
import Derived.Carry
set_option linter.unusedVariables false
set_option maxRecDepth 8000
set_option maxHeartbeats 4000000
set_option linter.unusedSimpArgs false
namespace Go.Proofs.K
open Go Go.Ab
theorem KernelPick_ok (H : AH) (h0 : H.ro ≤ H.size) (p : Ask) (vt vn vd vk : Value) (h : AskV H vt vn vd vk p) : Runs tb 21 [.agg #[vt, vn, vd, vk]] H (fun r _ => r = .bool true) := by
  obtain ⟨pt, ct, rfl⟩ := h.t.inv
  obtain ⟨pn, cn, rfl⟩ := h.n.inv
  obtain ⟨pd, cd, rfl⟩ := h.d.inv
  obtain ⟨pk, ck, rfl⟩ := h.k.inv
  refine Runs_fn (fn := Try.f21) [.tmp 2] [0, 1, 2] [] 3000 (by kernel_rfl) rfl (by kernel_rfl) (by kernel_rfl) rfl ?_; simp only [pad, argAt]
  simp (disch := omega) only [go_sem, Nat.reduceEqDiff, Nat.reduceAdd, ↓reduceIte, get_pushB, get_putB, pickB_t, pickB_f, eqB_t, eqB_f, ltB_t, leB_t, AH.size_push, AH.size_put, AH.ro_push, AH.ro_put, bslice_1 stI (.int .i64 17) rfl]
  refine callW_gen ?_
  intro G hG
  have hE : Ext H G := by rw [hG]; exact (Ext.push _ _).pushed _
  have hr := hE.ro
  have hs := hE.size
  have hk : Ints G (.slice (some ⟨H.size + 1, 0, none⟩) 1 1) [17] := (show OwnI H G _ [17] from Own.mk (H.size + 1) 1 [.int .i64 17] (by omega) h0 hr (by rw [hG]; (try simp (disch := omega) only [get_pushB, get_putB, pickB_t, pickB_f, eqB_t, eqB_f, ltB_t, AH.size_push, AH.size_put, AH.ro_push, AH.ro_put])) rfl (by omega)).ints
  clear hG
  refine callW_of (kinds_ok G (by omega) p _ _ _ _ (h.mono hE) [17] _ hk (fun k hk => ⟨_, by obtain rfl : k = 17 := (by simpa using hk); exact KindOk17⟩)) ?_
  rintro r G2 ⟨rfl, hE2⟩
  simp (disch := omega) only [go_sem, Nat.reduceEqDiff, Nat.reduceAdd, ↓reduceIte, get_pushB, get_putB, pickB_t, pickB_f, eqB_t, eqB_f, ltB_t, leB_t, AH.size_push, AH.size_put, AH.ro_push, AH.ro_put]
end Go.Proofs.K
namespace Go.Proofs.Ytcbmnjhdeklkmaa.kernelPick
open Go.ChangeShapes Go.WideShapes Go.ChangeAt Go.RowKit
theorem own : ownKnob Try.prog.godebug = none := by kernel_rfl
theorem laidOut : laidOutB Try.prog = true := by kernel_rfl
set_option maxRecDepth 100000 in
theorem lifted (os : Os) (started : os.Started) (H : Type) (enc : TypeId × Value → H) :
    ReturnsInHanded {} Try.checked os 21 .any (Rows.kernelPickSpec.pre6 enc Try.prog Try.f21 Rows.kernelPickRow.domain false) (Rows.kernelPickSpec.post enc Try.prog Try.f21 false true false false) := by
  refine returnsInHanded_of_change_sized (C := Try.checked) own started (by kernel_rfl) Try.func21
    (ChangeSpec.witness6 (enc := enc) (C := Try.checked) false ⟨#[], #[.agg #[.slice none 0 0, .slice none 0 0, .slice none 0 0, .slice none 0 0]], []⟩ 8 (by kernel_rfl) (by kernel_rfl) (by kernel_rfl) (by kernel_rfl)) ?_
  intro W base args ds gs before hval0 hW hcnd hsz0 _
  have hsz : (DataW.weightsEach Try.prog (Try.f21.params.toList ++ Rows.kernelPickSpec.plain.varTypes Try.prog) (ds ++ gs)).all (· ≤ reachBytes) = true := hsz0
  have hval : ∀ (j : Nat) t v, Try.f21.params[j]? = some t → args[j]? = some v → Value.okWide Try.prog W .any base t v := hval0
  have hW' := hW
  obtain ⟨p, q, hA0, hV, rfl, hfz, hnd⟩ := hW
  have hA : DataW.TrodAll enc Try.prog W 0 (fun _ => true) true Try.f21.params.toList args.toList ds p := hA0
  rw [Try.params21] at hA hval hsz
  obtain ⟨v0, vs0, d0, ds0, p0, q0, hargs, rfl, rfl, h0, r0⟩ := trodAll_cons hA
  obtain ⟨rfl, rfl, rfl⟩ := trodAll_nil r0
  obtain rfl : args = #[v0] := by cases args; simp_all
  obtain ⟨rfl, rfl⟩ := trodVars_none hV
  have k0 := h0
  have lt0 : ∀ x ∈ p0, x.block < W.heap.size := by obtain ⟨m, hm⟩ := k0; exact DataW.trod_lt m _ _ _ hm
  obtain ⟨cs, rfl, hcs⟩ := okWide_struct Try.underlying28 (hval 0 28 v0 rfl rfl)
  have hw : ∀ n ∈ d0.weights Try.prog 28, n ≤ reachBytes := fun n hn => by
    have := List.all_eq_true.1 hsz n (DataW.weights_mem_each (j := 0) rfl rfl n hn)
    simpa using this
  clear hA0 hval0 hsz0 hsz
  refine (Ab.law_calls (m := 8) K.tb_ok (fun _ => rfl) K.ty28 hcs (by kernel_rfl) k0 hw fun H xs dt hro hxl hr => ?_).mono fun e W' ⟨he, bel⟩ => ?_
  · obtain ⟨vt, vn, vd, vk, a, rfl, ha⟩ := K.repAsk hxl hr
    exact K.KernelPick_ok H (by omega) a vt vn vd vk ha
  subst he
  exact ⟨_, rfl, _, _, _, [], _, [], hW', trodAll_mk1 (shut_bool Try.underlying4 _), (trodAll_cons_mk (Below.trod laidOut (by kernel_rfl) (of_decide_eq_true (by kernel_rfl)) k0 bel lt0) trodAll_mk0), rfl, bel.frame _, fun h => by cases h⟩
theorem over : Rows.kernelPickRow.holds Try.pinned (OpenSpec.ofChange Rows.kernelPickSpec) :=
  OpenClaim.holds_of_wide 21 Try.f21 rfl rfl rfl rfl rfl rfl rfl ⟨rfl, rfl, rfl, rfl, rfl⟩ rfl rfl rfl rfl rfl (by kernel_rfl) Try.func21 (by kernel_rfl)
    (of_decide_eq_true (by kernel_rfl)) (by unfold Func.isWrapper; first | (rw [if_pos (by decide +kernel)]; kernel_rfl) | (rw [if_neg (by decide +kernel)]; exact ⟨rfl, rfl⟩))
    (fun os started H enc _ => lifted os started H enc)
end Go.Proofs.Ytcbmnjhdeklkmaa.kernelPick
namespace Go.Proofs.Ytcbmnjhdeklkmaa
theorem kernelPick_holds : Rows.KernelPickSaid := kernelPick.over
#print axioms kernelPick_holds
end Go.Proofs.Ytcbmnjhdeklkmaa
