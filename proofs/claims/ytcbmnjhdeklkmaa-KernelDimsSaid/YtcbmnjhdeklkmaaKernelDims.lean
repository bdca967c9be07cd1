/- For every input the law KernelDims answers true, and its argument reads as before. -/
import Derived.Test.YtcbmnjhdeklkmaaP4
import Derived.Test.YtcbmnjhdeklkmaaO8
import Derived.Test.YtcbmnjhdeklkmaaRows
import Derived.WalkKit
import Derived.ProofKit
import Derived.OpenShut
import Derived.ShutString
import Derived.ChangeOld
import Derived.Below
import Derived.SizedLaws
import Derived.Carry
set_option linter.unusedVariables false
set_option maxRecDepth 8000
set_option maxHeartbeats 4000000
set_option linter.unusedSimpArgs false
namespace Go.Proofs.K
open Go Go.Ab
theorem doE_cases (val : Int → List Int → List Ten → List Int) (k n : Int) (d : List Int) (l : List Ten) : (∃ e : Int, e ≠ 0 ∧ doE val k n d l = (([], []), e)) ∨ ∃ x, doOk k n d l = true ∧ dimsP k n d (l.map (·.1)) = some x ∧ doE val k n d l = ((x, val n d l), 0) := by
  cases hok : doOk k n d l
  · exact .inl ⟨1, by omega, by simp [doE, hok]⟩
  · cases hdp : dimsP k n d (l.map (·.1)) with
    | none => exact .inl ⟨4, by omega, by simp [doE, hok, hdp]⟩
    | some x => exact .inr ⟨x, rfl, rfl, by simp [doE, hok, hdp]⟩
theorem KernelDims_ok (H : AH) (h0 : H.ro ≤ H.size) (p : Ask) (vt vn vd vk : Value) (h : AskV H vt vn vd vk p) : Runs tb 4 [.agg #[vt, vn, vd, vk]] H (fun r _ => r = .bool true) := by
  obtain ⟨pt, ct, rfl⟩ := h.t.inv
  obtain ⟨pn, cn, rfl⟩ := h.n.inv
  obtain ⟨pd, cd, rfl⟩ := h.d.inv
  obtain ⟨pk, ck, rfl⟩ := h.k.inv
  refine Runs_fn (fn := Try.f4) [.tmp 2] [0, 1, 2, 3, 4, 5, 6, 7, 8, 9, 10, 11, 12, 13, 14] [] 3000 (by kernel_rfl) rfl (by kernel_rfl) (by kernel_rfl) rfl ?_; simp only [pad, argAt]
  simp (disch := omega) only [go_sem, Nat.reduceEqDiff, Nat.reduceAdd, ↓reduceIte, get_pushB, get_putB, pickB_t, pickB_f, eqB_t, eqB_f, ltB_t, leB_t, AH.size_push, AH.size_put, AH.ro_push, AH.ro_put]
  refine callW_gen ?_
  intro G hG
  have E1 : Ext H G := by rw [hG]; exact Ext.push _ _
  have g0 : G.get H.size = some [.slice pt p.T.length ct, .slice pn p.N.length cn, .slice pd p.D.length cd, .slice pk p.K.length ck] := by rw [hG]; (try simp (disch := omega) only [get_pushB, get_putB, pickB_t, pickB_f, eqB_t, eqB_f, ltB_t, AH.size_push, AH.size_put, AH.ro_push, AH.ro_put])
  have z1 : G.size = H.size + 1 := by rw [hG]; rfl
  clear hG
  have r1 := E1.ro
  refine callW_of (Heavy_ok G p _ _ _ _ (h.mono E1)) ?_
  rintro r G2 ⟨b, rfl, hb, E2⟩
  have F2 := E1.trans E2
  have r2 := F2.ro
  have s2 := F2.size
  have s21 := E2.size
  have g2 := E2.get _ _ g0
  simp (disch := omega) only [go_sem, Nat.reduceEqDiff, Nat.reduceAdd, ↓reduceIte, get_pushB, get_putB, pickB_t, pickB_f, eqB_t, eqB_f, ltB_t, leB_t, AH.size_push, AH.size_put, AH.ro_push, AH.ro_put]
  refine Split.mk (fun hbb => ?_) (fun hbb => ?_)
  · simp (disch := omega) only [go_sem, Nat.reduceEqDiff, Nat.reduceAdd, ↓reduceIte, get_pushB, get_putB, pickB_t, pickB_f, eqB_t, eqB_f, ltB_t, leB_t, AH.size_push, AH.size_put, AH.ro_push, AH.ro_put]
  · obtain ⟨⟨bT, bT2⟩, bN, ⟨bD, bD2⟩, bK⟩ := hb (by simpa using hbb)
    clear hbb hb
    have hT2 := Tens.mono F2 h.t
    have hD2 := Intss.mono F2 h.d
    have hTb : p.T.length ≤ 1000000000000 ∧ ∀ t ∈ p.T, t.1.length ≤ 1000000000000 ∧ t.2.length ≤ 1000000000000 := ⟨by omega, fun t ht => by have := bT2 t ht; omega⟩
    have hsub : ∀ a : Nat, ((p.T.drop a).take (a + 1 - a)).length ≤ 1000000000000 ∧ ∀ t ∈ (p.T.drop a).take (a + 1 - a), t.1.length ≤ 1000000000000 ∧ t.2.length ≤ 1000000000000 := fun a =>
      ⟨by simp; omega, fun t ht => hTb.2 t (List.mem_of_mem_drop (List.mem_of_mem_take ht))⟩
    have hro : ∀ K, Ext G2 K → K.ro ≤ K.size := fun K hE => by
      have := hE.ro
      have := hE.size
      omega
    simp (disch := omega) only [go_sem, Nat.reduceEqDiff, Nat.reduceAdd, ↓reduceIte, get_pushB, get_putB, pickB_t, pickB_f, eqB_t, eqB_f, ltB_t, leB_t, AH.size_push, AH.size_put, AH.ro_push, AH.ro_put]
    refine Sat_loop 3000 (fun z H' V => ∃ (k : Int) (x4 x5 x6 x7 x8 x9 x10 x11 x12 x13 x14 : Value), 4 ≤ k ∧ k ≤ 18 ∧ z = (18 - k).toNat ∧ Ext G2 H' ∧ V = [.agg #[.slice pt p.T.length ct, .slice pn p.N.length cn, .slice pd p.D.length cd, .slice pk p.K.length ck], .pointer (some ⟨H.size, 0, none⟩), .bool false, .int .i64 k, x4, x5, x6, x7, x8, x9, x10, x11, x12, x13, x14]) 14 ⟨4, _, _, _, _, _, _, _, _, _, _, _, by omega, by omega, by omega, Ext.refl _, rfl⟩ ?_
    rintro z H' V ⟨k, x4, x5, x6, x7, x8, x9, x10, x11, x12, x13, x14, hk1, hk2, rfl, hE, rfl⟩ ih1
    simp (disch := omega) only [go_sem, Nat.reduceEqDiff, Nat.reduceAdd, ↓reduceIte, get_pushB, get_putB, pickB_t, pickB_f, eqB_t, eqB_f, ltB_t, leB_t, AH.size_push, AH.size_put, AH.ro_push, AH.ro_put]
    refine Split.mk (fun hk3 => ?_) (fun hk3 => ?_)
    · obtain ⟨val, hv⟩ := KindAll k
      simp (disch := omega) only [go_sem, Nat.reduceEqDiff, Nat.reduceAdd, ↓reduceIte, get_pushB, get_putB, pickB_t, pickB_f, eqB_t, eqB_f, ltB_t, leB_t, AH.size_push, AH.size_put, AH.ro_push, AH.ro_put]
      refine Sat_loop 3000 (fun z H2 V => ∃ (i : Nat) (x5 x6 x7 x8 x9 x10 x11 x12 x13 x14 : Value), i ≤ p.T.length ∧ z = p.T.length - i ∧ Ext G2 H2 ∧ V = [.agg #[.slice pt p.T.length ct, .slice pn p.N.length cn, .slice pd p.D.length cd, .slice pk p.K.length ck], .pointer (some ⟨H.size, 0, none⟩), .bool false, .int .i64 k, .int .i64 i, x5, x6, x7, x8, x9, x10, x11, x12, x13, x14]) p.T.length ⟨0, _, _, _, _, _, _, _, _, _, _, by omega, by omega, hE, rfl⟩ ?_
      clear hE
      rintro z H2 V ⟨i, x5, x6, x7, x8, x9, x10, x11, x12, x13, x14, hi1, rfl, hE, rfl⟩ ih2
      have g3 := hE.get _ _ g2
      simp (disch := omega) only [go_sem, Nat.reduceEqDiff, Nat.reduceAdd, ↓reduceIte, get_pushB, get_putB, pickB_t, pickB_f, eqB_t, eqB_f, ltB_t, leB_t, AH.size_push, AH.size_put, AH.ro_push, AH.ro_put, g3]
      refine SplitG.mk (fun hi2 => ?_) (fun hi2 => ?_)
      · simp (disch := omega) only [go_sem, Nat.reduceEqDiff, Nat.reduceAdd, ↓reduceIte, get_pushB, get_putB, pickB_t, pickB_f, eqB_t, eqB_f, ltB_t, leB_t, AH.size_push, AH.size_put, AH.ro_push, AH.ro_put, g3]
        refine Split.mk (fun hi3 => ?_) (fun hi3 => ?_)
        · have hi4 : i < p.T.length := by omega
          simp (disch := omega) only [go_sem, Nat.reduceEqDiff, Nat.reduceAdd, ↓reduceIte, get_pushB, get_putB, pickB_t, pickB_f, eqB_t, eqB_f, ltB_t, leB_t, AH.size_push, AH.size_put, AH.ro_push, AH.ro_put]
          refine Sat_loop 3000 (fun z H3 V => ∃ (n : Nat) (x6 x7 x8 x9 x10 x11 x12 x13 x14 : Value), n ≤ 4 ∧ z = 4 - n ∧ Ext G2 H3 ∧ V = [.agg #[.slice pt p.T.length ct, .slice pn p.N.length cn, .slice pd p.D.length cd, .slice pk p.K.length ck], .pointer (some ⟨H.size, 0, none⟩), .bool false, .int .i64 k, .int .i64 i, .int .i64 n, x6, x7, x8, x9, x10, x11, x12, x13, x14]) 4 ⟨0, _, _, _, _, _, _, _, _, _, by omega, by omega, hE, rfl⟩ ?_
          clear hE g3
          rintro z H3 V ⟨n, x6, x7, x8, x9, x10, x11, x12, x13, x14, hn1, rfl, hE, rfl⟩ ih3
          have g4 := hE.get _ _ g2
          simp (disch := omega) only [go_sem, Nat.reduceEqDiff, Nat.reduceAdd, ↓reduceIte, get_pushB, get_putB, pickB_t, pickB_f, eqB_t, eqB_f, ltB_t, leB_t, AH.size_push, AH.size_put, AH.ro_push, AH.ro_put, g4]
          refine Split.mk (fun hn2 => ?_) (fun hn2 => ?_)
          · have hT := Tens.mono hE hT2
            obtain ⟨sa, sc, es, hs⟩ := Sl.sub hT ty22 rfl ty32 rfl (some (.int .i64 i)) (some (.int .i64 (i + 1))) i (i + 1) (by simp [abound]; omega) (by simp [abound]; omega)
            have hrem : ((i : Int) + n).tmod (p.T.length : Int) = (((i + n) % p.T.length : Nat) : Int) := by
              rw [show (i : Int) + n = ((i + n : Nat) : Int) by omega, Int.ofNat_tmod]
            have hrl : (i + n) % p.T.length < p.T.length := Nat.mod_lt _ (by omega)
            obtain ⟨va, ea, ad, ax, rfl, had, hax⟩ := ldT hT i hi4
            obtain ⟨vb, eb, bd, bx, rfl, hbd, hbx⟩ := ldT hT ((i + n) % p.T.length) hrl
            simp (disch := omega) only [go_sem, Nat.reduceEqDiff, Nat.reduceAdd, ↓reduceIte, get_pushB, get_putB, pickB_t, pickB_f, eqB_t, eqB_f, ltB_t, leB_t, AH.size_push, AH.size_put, AH.ro_push, AH.ro_put, g4, es, ixT hT, ea, hrem, eb, bslice_2' stT ad ax bd bx]
            refine ⟨by omega, ?_⟩
            refine Sat_gen ?_
            intro H4 hH4
            have hX : Ext H3 H4 := by rw [hH4]; exact Ext.push _ _
            have gl : H4.get H3.size = some [ad, ax, bd, bx] := by rw [hH4]; (try simp (disch := omega) only [get_pushB, get_putB, pickB_t, pickB_f, eqB_t, eqB_f, ltB_t, AH.size_push, AH.size_put, AH.ro_push, AH.ro_put])
            clear hH4
            have hE4 := hE.trans hX
            have hr3 := hro _ hE
            have hTwo : Tens H4 (.slice (some ⟨H3.size, 0, none⟩) 2 2) [p.T[i], p.T[(i + n) % p.T.length]] := by
              refine Own.sl (H0 := H3) (Own.mk H3.size 2 [ad, ax, bd, bx] (Nat.le_refl _) hr3 hX.ro gl rfl (by omega)) rfl fun q x hx => ?_
              match q, hx with
              | 0, hx => simp at hx; subst hx; exact ⟨_, _, rfl, rfl, Ints.mono hX had, Ints.mono hX hax⟩
              | 1, hx => simp at hx; subst hx; exact ⟨_, _, rfl, rfl, Ints.mono hX hbd, Ints.mono hX hbx⟩
            have hOne := Tens.mono hX hs
            have hOb := hsub i
            have hTob : ([p.T[i], p.T[(i + n) % p.T.length]] : List Ten).length ≤ 1000000000000 ∧ ∀ t ∈ ([p.T[i], p.T[(i + n) % p.T.length]] : List Ten), t.1.length ≤ 1000000000000 ∧ t.2.length ≤ 1000000000000 := ⟨by simp, fun t ht => hTb.2 t (by simp only [List.mem_cons, List.not_mem_nil, or_false] at ht; rcases ht with rfl | rfl <;> exact List.getElem_mem _)⟩
            generalize ([p.T[i], p.T[(i + n) % p.T.length]] : List Ten) = two at *
            generalize (p.T.drop i).take (i + 1 - i) = one at *
            refine Sat_loop 3000 (fun z Hq V => ∃ (q : Nat) (x9 x10 x11 x12 x13 x14 : Value), q ≤ 2 ∧ z = 2 - q ∧ Ext H4 Hq ∧ V = [.agg #[.slice pt p.T.length ct, .slice pn p.N.length cn, .slice pd p.D.length cd, .slice pk p.K.length ck], .pointer (some ⟨H.size, 0, none⟩), .bool false, .int .i64 k, .int .i64 i, .int .i64 n, .slice sa _ sc, .slice (some ⟨H3.size, 0, none⟩) 2 2, .int .i64 q, x9, x10, x11, x12, x13, x14]) 2 ⟨0, _, _, _, _, _, _, by omega, by omega, Ext.refl _, rfl⟩ ?_
            rintro z Hc V ⟨q, x9, x10, x11, x12, x13, x14, hq1, rfl, hEc4, rfl⟩ ih4
            have hEc := hE4.trans hEc4
            simp (disch := omega) only [go_sem, Nat.reduceEqDiff, Nat.reduceAdd, ↓reduceIte, get_pushB, get_putB, pickB_t, pickB_f, eqB_t, eqB_f, ltB_t, leB_t, AH.size_push, AH.size_put, AH.ro_push, AH.ro_put]
            refine Split.mk (fun hq2 => ?_) (fun hq2 => ?_)
            · simp (disch := omega) only [go_sem, Nat.reduceEqDiff, Nat.reduceAdd, ↓reduceIte, get_pushB, get_putB, pickB_t, pickB_f, eqB_t, eqB_f, ltB_t, leB_t, AH.size_push, AH.size_put, AH.ro_push, AH.ro_put]
              refine Split.mk (fun hq3 => ?_) (fun hq3 => ?_)
              · simp (disch := omega) only [go_sem, Nat.reduceEqDiff, Nat.reduceAdd, ↓reduceIte, get_pushB, get_putB, pickB_t, pickB_f, eqB_t, eqB_f, ltB_t, leB_t, AH.size_push, AH.size_put, AH.ro_push, AH.ro_put]
                have g7 := hEc.get _ _ g2
                simp (disch := omega) only [go_sem, Nat.reduceEqDiff, Nat.reduceAdd, ↓reduceIte, get_pushB, get_putB, pickB_t, pickB_f, eqB_t, eqB_f, ltB_t, leB_t, AH.size_push, AH.size_put, AH.ro_push, AH.ro_put, g7]
                refine SplitG.mk (fun hD1 => ?_) (fun hD1 => ?_)
                · simp (disch := omega) only [go_sem, Nat.reduceEqDiff, Nat.reduceAdd, ↓reduceIte, get_pushB, get_putB, pickB_t, pickB_f, eqB_t, eqB_f, ltB_t, leB_t, AH.size_push, AH.size_put, AH.ro_push, AH.ro_put]
                  refine callW_of (Between_ok ..) ?_
                  rintro r Hc' ⟨rfl, rfl⟩
                  simp (disch := omega) only [go_sem, Nat.reduceEqDiff, Nat.reduceAdd, ↓reduceIte, get_pushB, get_putB, pickB_t, pickB_f, eqB_t, eqB_f, ltB_t, leB_t, AH.size_push, AH.size_put, AH.ro_push, AH.ro_put]
                  refine Split.mk (fun hB => ?_) (fun hB => ?_)
                  · have hrem : ((n : Int)).tmod (p.D.length : Int) = ((n % p.D.length : Nat) : Int) := by rw [Int.ofNat_tmod]
                    have hrl : n % p.D.length < p.D.length := Nat.mod_lt _ (by omega)
                    obtain ⟨vdi, edi, hdi⟩ := ldII hD2 (n % p.D.length) hrl
                    simp (disch := omega) only [go_sem, Nat.reduceEqDiff, Nat.reduceAdd, ↓reduceIte, get_pushB, get_putB, pickB_t, pickB_f, eqB_t, eqB_f, ltB_t, leB_t, AH.size_push, AH.size_put, AH.ro_push, AH.ro_put, g7, hrem, ixII (Intss.mono hEc hD2), aload_ext hEc edi]
                    refine ⟨by omega, ?_⟩
                    refine callW_of (DoK_ok hv.ok Hc' (hro _ hEc) n (p.D[n % p.D.length]'hrl) two _ _ (Ints.mono hEc hdi) (Tens.mono hEc4 hTwo) hTob.1) ?_
                    rcases doE_cases val k n (p.D[n % p.D.length]'hrl) two with ⟨e, he, hde⟩ | ⟨x, hok, hdp, hde⟩
                    · rw [hde]
                      rintro r G5 ⟨u, rfl, hu, hE5⟩
                      obtain ⟨ud, ux, rfl, hud, hux, _⟩ := id hu
                      obtain ⟨p1, c1, rfl⟩ := hud.ints.inv
                      obtain ⟨p2, c2, rfl⟩ := hux.ints.inv
                      have hE6 := hEc.trans hE5
                      have hr5 := hE5.ro
                      have hs5 := hE5.size
                      have hrc := hro _ hEc
                      simp (disch := omega) only [go_sem, Nat.reduceEqDiff, Nat.reduceAdd, ↓reduceIte, get_pushB, get_putB, pickB_t, pickB_f, eqB_t, eqB_f, ltB_t, leB_t, AH.size_push, AH.size_put, AH.ro_push, AH.ro_put]
                      refine callW_gen ?_
                      intro G6 hG6
                      have hE7 : Ext G2 G6 := by rw [hG6]; exact (hE6.pushed _).put (by have := hE6.size; omega) (by simp only [AH.size_push]; omega) _
                      have hE74 : Ext H4 G6 := hEc4.trans (hE5.trans (by rw [hG6]; exact (Ext.push _ _).put (by omega) (by simp only [AH.size_push]; omega) _))
                      clear hG6
                      refine callW_of (num_ok ..) ?_
                      rintro r G7 ⟨rfl, rfl⟩
                      have he' : decide (e ≠ 0) = true := by simp [he]
                      simp (disch := omega) only [go_sem, Nat.reduceEqDiff, Nat.reduceAdd, ↓reduceIte, get_pushB, get_putB, pickB_t, pickB_f, eqB_t, eqB_f, ltB_t, leB_t, AH.size_push, AH.size_put, AH.ro_push, AH.ro_put]
                      refine ih4 _ _ _ ?_ ⟨q + 1, _, _, _, _, _, _, by omega, rfl, hE74, rfl⟩
                      omega
                    · rw [hde]
                      rintro r G5 ⟨u, rfl, hu, hE5⟩
                      obtain ⟨ud, ux, rfl, hud, hux, _⟩ := id hu
                      obtain ⟨p1, c1, rfl⟩ := hud.ints.inv
                      obtain ⟨p2, c2, rfl⟩ := hux.ints.inv
                      have hE6 := hEc.trans hE5
                      have hr5 := hE5.ro
                      have hs5 := hE5.size
                      have hrc := hro _ hEc
                      simp (disch := omega) only [go_sem, Nat.reduceEqDiff, Nat.reduceAdd, ↓reduceIte, get_pushB, get_putB, pickB_t, pickB_f, eqB_t, eqB_f, ltB_t, leB_t, AH.size_push, AH.size_put, AH.ro_push, AH.ro_put]
                      refine callW_gen ?_
                      intro G6 hG6
                      have hE56 : Ext G5 G6 := by rw [hG6]; exact (Ext.push _ _).put (by omega) (by simp only [AH.size_push]; omega) _
                      have t6 : G6.get G5.size = some [.slice p1 x.length c1, .slice p2 (val n (p.D[n % p.D.length]'hrl) two).length c2] := by rw [hG6]; (try simp (disch := omega) only [get_pushB, get_putB, pickB_t, pickB_f, eqB_t, eqB_f, ltB_t, AH.size_push, AH.size_put, AH.ro_push, AH.ro_put])
                      have hE7 := hE6.trans hE56
                      have hEl := hE5.trans hE56
                      clear hG6
                      refine callW_of (num_ok ..) ?_
                      rintro r G7 ⟨rfl, rfl⟩
                      simp (disch := omega) only [go_sem, Nat.reduceEqDiff, Nat.reduceAdd, ↓reduceIte, get_pushB, get_putB, pickB_t, pickB_f, eqB_t, eqB_f, ltB_t, leB_t, AH.size_push, AH.size_put, AH.ro_push, AH.ro_put, Int.reduceEq, decide_true, decide_false, ne_eq, not_true_eq_false, not_false_eq_true]
                      refine callW_of (DimsOf_ok G7 (hro _ hE7) two _ (Tens.mono hEl (Tens.mono hEc4 hTwo)) hTob.1) ?_
                      rintro r G8 ⟨hds, hE8⟩
                      obtain ⟨ps, cs, rfl⟩ := hds.inv
                      simp (disch := omega) only [go_sem, Nat.reduceEqDiff, Nat.reduceAdd, ↓reduceIte, get_pushB, get_putB, pickB_t, pickB_f, eqB_t, eqB_f, ltB_t, leB_t, AH.size_push, AH.size_put, AH.ro_push, AH.ro_put]
                      refine callW_of (Dims_ok G8 (hro _ (hE7.trans hE8)) k n (p.D[n % p.D.length]'hrl) _ _ _ (Ints.mono (hEl.trans hE8) (Ints.mono hEc hdi)) hds) ?_
                      have hdE : dimsE k n (p.D[n % p.D.length]'hrl) (two.map (·.1)) = (x, 0) := by simp only [dimsE, (doOk_form hok).2.2.2.1, hdp, if_true]
                      rw [hdE]
                      rintro r G9 ⟨w, rfl, hw, hE9⟩
                      obtain ⟨p3, c3, rfl⟩ := (OwnI.ints hw).inv
                      have hE79 := hE8.trans hE9
                      simp (disch := omega) only [go_sem, Nat.reduceEqDiff, Nat.reduceAdd, ↓reduceIte, get_pushB, get_putB, pickB_t, pickB_f, eqB_t, eqB_f, ltB_t, leB_t, AH.size_push, AH.size_put, AH.ro_push, AH.ro_put]
                      refine callW_of (num_ok ..) ?_
                      rintro r G10 ⟨rfl, rfl⟩
                      have t9 := hE79.get _ _ t6
                      simp (disch := omega) only [go_sem, Nat.reduceEqDiff, Nat.reduceAdd, ↓reduceIte, get_pushB, get_putB, pickB_t, pickB_f, eqB_t, eqB_f, ltB_t, leB_t, AH.size_push, AH.size_put, AH.ro_push, AH.ro_put, t9, Int.reduceEq, decide_true, decide_false, ne_eq, not_true_eq_false, not_false_eq_true]
                      have hx9 := Ints.mono (hE56.trans hE79) hud.ints
                      refine callW_of (EqNumbers_ok G10 x x _ _ (OwnI.ints hw) hx9) ?_
                      rintro r G11 ⟨rfl, rfl⟩
                      simp (disch := omega) only [go_sem, Nat.reduceEqDiff, Nat.reduceAdd, ↓reduceIte, get_pushB, get_putB, pickB_t, pickB_f, eqB_t, eqB_f, ltB_t, leB_t, AH.size_push, AH.size_put, AH.ro_push, AH.ro_put, t9, decide_true]
                      have hxx9 := Ints.mono (hE56.trans hE79) hux.ints
                      refine callW_of (RefTensor_ok G11 (x, val n (p.D[n % p.D.length]'hrl) two) _ ⟨_, _, rfl, hx9, hxx9⟩) ?_
                      rintro r G12 ⟨rfl, hE12⟩
                      have hisT : isT (x, val n (p.D[n % p.D.length]'hrl) two) = true := by
                        have h1 := dimsP_may (doOk_form hok).2.2.2.1 hdp
                        have h2 := hv.len (by omega) n (p.D[n % p.D.length]'hrl) two x hok hdp
                        have h3 := prodL_pos h1
                        simp only [isT, h1, h2, Bool.true_and, decide_eq_true_eq]
                        omega
                      simp (disch := omega) only [go_sem, Nat.reduceEqDiff, Nat.reduceAdd, ↓reduceIte, get_pushB, get_putB, pickB_t, pickB_f, eqB_t, eqB_f, ltB_t, leB_t, AH.size_push, AH.size_put, AH.ro_push, AH.ro_put, hisT]
                      have hE134 := hEc4.trans (((hE5.trans hE56).trans hE79).trans hE12)
                      refine ih4 _ _ _ ?_ ⟨q + 1, _, _, _, _, _, _, by omega, rfl, hE134, rfl⟩
                      omega
                  · simp (disch := omega) only [go_sem, Nat.reduceEqDiff, Nat.reduceAdd, ↓reduceIte, get_pushB, get_putB, pickB_t, pickB_f, eqB_t, eqB_f, ltB_t, leB_t, AH.size_push, AH.size_put, AH.ro_push, AH.ro_put]
                    refine callW_of (DoK_ok hv.ok Hc' (hro _ hEc) n [] two _ _ (Sl.nil _ _ _) (Tens.mono hEc4 hTwo) hTob.1) ?_
                    rcases doE_cases val k n [] two with ⟨e, he, hde⟩ | ⟨x, hok, hdp, hde⟩
                    · rw [hde]
                      rintro r G5 ⟨u, rfl, hu, hE5⟩
                      obtain ⟨ud, ux, rfl, hud, hux, _⟩ := id hu
                      obtain ⟨p1, c1, rfl⟩ := hud.ints.inv
                      obtain ⟨p2, c2, rfl⟩ := hux.ints.inv
                      have hE6 := hEc.trans hE5
                      have hr5 := hE5.ro
                      have hs5 := hE5.size
                      have hrc := hro _ hEc
                      simp (disch := omega) only [go_sem, Nat.reduceEqDiff, Nat.reduceAdd, ↓reduceIte, get_pushB, get_putB, pickB_t, pickB_f, eqB_t, eqB_f, ltB_t, leB_t, AH.size_push, AH.size_put, AH.ro_push, AH.ro_put]
                      refine callW_gen ?_
                      intro G6 hG6
                      have hE7 : Ext G2 G6 := by rw [hG6]; exact (hE6.pushed _).put (by have := hE6.size; omega) (by simp only [AH.size_push]; omega) _
                      have hE74 : Ext H4 G6 := hEc4.trans (hE5.trans (by rw [hG6]; exact (Ext.push _ _).put (by omega) (by simp only [AH.size_push]; omega) _))
                      clear hG6
                      refine callW_of (num_ok ..) ?_
                      rintro r G7 ⟨rfl, rfl⟩
                      have he' : decide (e ≠ 0) = true := by simp [he]
                      simp (disch := omega) only [go_sem, Nat.reduceEqDiff, Nat.reduceAdd, ↓reduceIte, get_pushB, get_putB, pickB_t, pickB_f, eqB_t, eqB_f, ltB_t, leB_t, AH.size_push, AH.size_put, AH.ro_push, AH.ro_put]
                      refine ih4 _ _ _ ?_ ⟨q + 1, _, _, _, _, _, _, by omega, rfl, hE74, rfl⟩
                      omega
                    · rw [hde]
                      rintro r G5 ⟨u, rfl, hu, hE5⟩
                      obtain ⟨ud, ux, rfl, hud, hux, _⟩ := id hu
                      obtain ⟨p1, c1, rfl⟩ := hud.ints.inv
                      obtain ⟨p2, c2, rfl⟩ := hux.ints.inv
                      have hE6 := hEc.trans hE5
                      have hr5 := hE5.ro
                      have hs5 := hE5.size
                      have hrc := hro _ hEc
                      simp (disch := omega) only [go_sem, Nat.reduceEqDiff, Nat.reduceAdd, ↓reduceIte, get_pushB, get_putB, pickB_t, pickB_f, eqB_t, eqB_f, ltB_t, leB_t, AH.size_push, AH.size_put, AH.ro_push, AH.ro_put]
                      refine callW_gen ?_
                      intro G6 hG6
                      have hE56 : Ext G5 G6 := by rw [hG6]; exact (Ext.push _ _).put (by omega) (by simp only [AH.size_push]; omega) _
                      have t6 : G6.get G5.size = some [.slice p1 x.length c1, .slice p2 (val n [] two).length c2] := by rw [hG6]; (try simp (disch := omega) only [get_pushB, get_putB, pickB_t, pickB_f, eqB_t, eqB_f, ltB_t, AH.size_push, AH.size_put, AH.ro_push, AH.ro_put])
                      have hE7 := hE6.trans hE56
                      have hEl := hE5.trans hE56
                      clear hG6
                      refine callW_of (num_ok ..) ?_
                      rintro r G7 ⟨rfl, rfl⟩
                      simp (disch := omega) only [go_sem, Nat.reduceEqDiff, Nat.reduceAdd, ↓reduceIte, get_pushB, get_putB, pickB_t, pickB_f, eqB_t, eqB_f, ltB_t, leB_t, AH.size_push, AH.size_put, AH.ro_push, AH.ro_put, Int.reduceEq, decide_true, decide_false, ne_eq, not_true_eq_false, not_false_eq_true]
                      refine callW_of (DimsOf_ok G7 (hro _ hE7) two _ (Tens.mono hEl (Tens.mono hEc4 hTwo)) hTob.1) ?_
                      rintro r G8 ⟨hds, hE8⟩
                      obtain ⟨ps, cs, rfl⟩ := hds.inv
                      simp (disch := omega) only [go_sem, Nat.reduceEqDiff, Nat.reduceAdd, ↓reduceIte, get_pushB, get_putB, pickB_t, pickB_f, eqB_t, eqB_f, ltB_t, leB_t, AH.size_push, AH.size_put, AH.ro_push, AH.ro_put]
                      refine callW_of (Dims_ok G8 (hro _ (hE7.trans hE8)) k n [] _ _ _ (Ints.mono (hEl.trans hE8) (Sl.nil _ _ _)) hds) ?_
                      have hdE : dimsE k n [] (two.map (·.1)) = (x, 0) := by simp only [dimsE, (doOk_form hok).2.2.2.1, hdp, if_true]
                      rw [hdE]
                      rintro r G9 ⟨w, rfl, hw, hE9⟩
                      obtain ⟨p3, c3, rfl⟩ := (OwnI.ints hw).inv
                      have hE79 := hE8.trans hE9
                      simp (disch := omega) only [go_sem, Nat.reduceEqDiff, Nat.reduceAdd, ↓reduceIte, get_pushB, get_putB, pickB_t, pickB_f, eqB_t, eqB_f, ltB_t, leB_t, AH.size_push, AH.size_put, AH.ro_push, AH.ro_put]
                      refine callW_of (num_ok ..) ?_
                      rintro r G10 ⟨rfl, rfl⟩
                      have t9 := hE79.get _ _ t6
                      simp (disch := omega) only [go_sem, Nat.reduceEqDiff, Nat.reduceAdd, ↓reduceIte, get_pushB, get_putB, pickB_t, pickB_f, eqB_t, eqB_f, ltB_t, leB_t, AH.size_push, AH.size_put, AH.ro_push, AH.ro_put, t9, Int.reduceEq, decide_true, decide_false, ne_eq, not_true_eq_false, not_false_eq_true]
                      have hx9 := Ints.mono (hE56.trans hE79) hud.ints
                      refine callW_of (EqNumbers_ok G10 x x _ _ (OwnI.ints hw) hx9) ?_
                      rintro r G11 ⟨rfl, rfl⟩
                      simp (disch := omega) only [go_sem, Nat.reduceEqDiff, Nat.reduceAdd, ↓reduceIte, get_pushB, get_putB, pickB_t, pickB_f, eqB_t, eqB_f, ltB_t, leB_t, AH.size_push, AH.size_put, AH.ro_push, AH.ro_put, t9, decide_true]
                      have hxx9 := Ints.mono (hE56.trans hE79) hux.ints
                      refine callW_of (RefTensor_ok G11 (x, val n [] two) _ ⟨_, _, rfl, hx9, hxx9⟩) ?_
                      rintro r G12 ⟨rfl, hE12⟩
                      have hisT : isT (x, val n [] two) = true := by
                        have h1 := dimsP_may (doOk_form hok).2.2.2.1 hdp
                        have h2 := hv.len (by omega) n [] two x hok hdp
                        have h3 := prodL_pos h1
                        simp only [isT, h1, h2, Bool.true_and, decide_eq_true_eq]
                        omega
                      simp (disch := omega) only [go_sem, Nat.reduceEqDiff, Nat.reduceAdd, ↓reduceIte, get_pushB, get_putB, pickB_t, pickB_f, eqB_t, eqB_f, ltB_t, leB_t, AH.size_push, AH.size_put, AH.ro_push, AH.ro_put, hisT]
                      have hE134 := hEc4.trans (((hE5.trans hE56).trans hE79).trans hE12)
                      refine ih4 _ _ _ ?_ ⟨q + 1, _, _, _, _, _, _, by omega, rfl, hE134, rfl⟩
                      omega
                · simp (disch := omega) only [go_sem, Nat.reduceEqDiff, Nat.reduceAdd, ↓reduceIte, get_pushB, get_putB, pickB_t, pickB_f, eqB_t, eqB_f, ltB_t, leB_t, AH.size_push, AH.size_put, AH.ro_push, AH.ro_put]
                  refine callW_of (DoK_ok hv.ok Hc (hro _ hEc) n [] two _ _ (Sl.nil _ _ _) (Tens.mono hEc4 hTwo) hTob.1) ?_
                  rcases doE_cases val k n [] two with ⟨e, he, hde⟩ | ⟨x, hok, hdp, hde⟩
                  · rw [hde]
                    rintro r G5 ⟨u, rfl, hu, hE5⟩
                    obtain ⟨ud, ux, rfl, hud, hux, _⟩ := id hu
                    obtain ⟨p1, c1, rfl⟩ := hud.ints.inv
                    obtain ⟨p2, c2, rfl⟩ := hux.ints.inv
                    have hE6 := hEc.trans hE5
                    have hr5 := hE5.ro
                    have hs5 := hE5.size
                    have hrc := hro _ hEc
                    simp (disch := omega) only [go_sem, Nat.reduceEqDiff, Nat.reduceAdd, ↓reduceIte, get_pushB, get_putB, pickB_t, pickB_f, eqB_t, eqB_f, ltB_t, leB_t, AH.size_push, AH.size_put, AH.ro_push, AH.ro_put]
                    refine callW_gen ?_
                    intro G6 hG6
                    have hE7 : Ext G2 G6 := by rw [hG6]; exact (hE6.pushed _).put (by have := hE6.size; omega) (by simp only [AH.size_push]; omega) _
                    have hE74 : Ext H4 G6 := hEc4.trans (hE5.trans (by rw [hG6]; exact (Ext.push _ _).put (by omega) (by simp only [AH.size_push]; omega) _))
                    clear hG6
                    refine callW_of (num_ok ..) ?_
                    rintro r G7 ⟨rfl, rfl⟩
                    have he' : decide (e ≠ 0) = true := by simp [he]
                    simp (disch := omega) only [go_sem, Nat.reduceEqDiff, Nat.reduceAdd, ↓reduceIte, get_pushB, get_putB, pickB_t, pickB_f, eqB_t, eqB_f, ltB_t, leB_t, AH.size_push, AH.size_put, AH.ro_push, AH.ro_put]
                    refine ih4 _ _ _ ?_ ⟨q + 1, _, _, _, _, _, _, by omega, rfl, hE74, rfl⟩
                    omega
                  · rw [hde]
                    rintro r G5 ⟨u, rfl, hu, hE5⟩
                    obtain ⟨ud, ux, rfl, hud, hux, _⟩ := id hu
                    obtain ⟨p1, c1, rfl⟩ := hud.ints.inv
                    obtain ⟨p2, c2, rfl⟩ := hux.ints.inv
                    have hE6 := hEc.trans hE5
                    have hr5 := hE5.ro
                    have hs5 := hE5.size
                    have hrc := hro _ hEc
                    simp (disch := omega) only [go_sem, Nat.reduceEqDiff, Nat.reduceAdd, ↓reduceIte, get_pushB, get_putB, pickB_t, pickB_f, eqB_t, eqB_f, ltB_t, leB_t, AH.size_push, AH.size_put, AH.ro_push, AH.ro_put]
                    refine callW_gen ?_
                    intro G6 hG6
                    have hE56 : Ext G5 G6 := by rw [hG6]; exact (Ext.push _ _).put (by omega) (by simp only [AH.size_push]; omega) _
                    have t6 : G6.get G5.size = some [.slice p1 x.length c1, .slice p2 (val n [] two).length c2] := by rw [hG6]; (try simp (disch := omega) only [get_pushB, get_putB, pickB_t, pickB_f, eqB_t, eqB_f, ltB_t, AH.size_push, AH.size_put, AH.ro_push, AH.ro_put])
                    have hE7 := hE6.trans hE56
                    have hEl := hE5.trans hE56
                    clear hG6
                    refine callW_of (num_ok ..) ?_
                    rintro r G7 ⟨rfl, rfl⟩
                    simp (disch := omega) only [go_sem, Nat.reduceEqDiff, Nat.reduceAdd, ↓reduceIte, get_pushB, get_putB, pickB_t, pickB_f, eqB_t, eqB_f, ltB_t, leB_t, AH.size_push, AH.size_put, AH.ro_push, AH.ro_put, Int.reduceEq, decide_true, decide_false, ne_eq, not_true_eq_false, not_false_eq_true]
                    refine callW_of (DimsOf_ok G7 (hro _ hE7) two _ (Tens.mono hEl (Tens.mono hEc4 hTwo)) hTob.1) ?_
                    rintro r G8 ⟨hds, hE8⟩
                    obtain ⟨ps, cs, rfl⟩ := hds.inv
                    simp (disch := omega) only [go_sem, Nat.reduceEqDiff, Nat.reduceAdd, ↓reduceIte, get_pushB, get_putB, pickB_t, pickB_f, eqB_t, eqB_f, ltB_t, leB_t, AH.size_push, AH.size_put, AH.ro_push, AH.ro_put]
                    refine callW_of (Dims_ok G8 (hro _ (hE7.trans hE8)) k n [] _ _ _ (Ints.mono (hEl.trans hE8) (Sl.nil _ _ _)) hds) ?_
                    have hdE : dimsE k n [] (two.map (·.1)) = (x, 0) := by simp only [dimsE, (doOk_form hok).2.2.2.1, hdp, if_true]
                    rw [hdE]
                    rintro r G9 ⟨w, rfl, hw, hE9⟩
                    obtain ⟨p3, c3, rfl⟩ := (OwnI.ints hw).inv
                    have hE79 := hE8.trans hE9
                    simp (disch := omega) only [go_sem, Nat.reduceEqDiff, Nat.reduceAdd, ↓reduceIte, get_pushB, get_putB, pickB_t, pickB_f, eqB_t, eqB_f, ltB_t, leB_t, AH.size_push, AH.size_put, AH.ro_push, AH.ro_put]
                    refine callW_of (num_ok ..) ?_
                    rintro r G10 ⟨rfl, rfl⟩
                    have t9 := hE79.get _ _ t6
                    simp (disch := omega) only [go_sem, Nat.reduceEqDiff, Nat.reduceAdd, ↓reduceIte, get_pushB, get_putB, pickB_t, pickB_f, eqB_t, eqB_f, ltB_t, leB_t, AH.size_push, AH.size_put, AH.ro_push, AH.ro_put, t9, Int.reduceEq, decide_true, decide_false, ne_eq, not_true_eq_false, not_false_eq_true]
                    have hx9 := Ints.mono (hE56.trans hE79) hud.ints
                    refine callW_of (EqNumbers_ok G10 x x _ _ (OwnI.ints hw) hx9) ?_
                    rintro r G11 ⟨rfl, rfl⟩
                    simp (disch := omega) only [go_sem, Nat.reduceEqDiff, Nat.reduceAdd, ↓reduceIte, get_pushB, get_putB, pickB_t, pickB_f, eqB_t, eqB_f, ltB_t, leB_t, AH.size_push, AH.size_put, AH.ro_push, AH.ro_put, t9, decide_true]
                    have hxx9 := Ints.mono (hE56.trans hE79) hux.ints
                    refine callW_of (RefTensor_ok G11 (x, val n [] two) _ ⟨_, _, rfl, hx9, hxx9⟩) ?_
                    rintro r G12 ⟨rfl, hE12⟩
                    have hisT : isT (x, val n [] two) = true := by
                      have h1 := dimsP_may (doOk_form hok).2.2.2.1 hdp
                      have h2 := hv.len (by omega) n [] two x hok hdp
                      have h3 := prodL_pos h1
                      simp only [isT, h1, h2, Bool.true_and, decide_eq_true_eq]
                      omega
                    simp (disch := omega) only [go_sem, Nat.reduceEqDiff, Nat.reduceAdd, ↓reduceIte, get_pushB, get_putB, pickB_t, pickB_f, eqB_t, eqB_f, ltB_t, leB_t, AH.size_push, AH.size_put, AH.ro_push, AH.ro_put, hisT]
                    have hE134 := hEc4.trans (((hE5.trans hE56).trans hE79).trans hE12)
                    refine ih4 _ _ _ ?_ ⟨q + 1, _, _, _, _, _, _, by omega, rfl, hE134, rfl⟩
                    omega
              · simp (disch := omega) only [go_sem, Nat.reduceEqDiff, Nat.reduceAdd, ↓reduceIte, get_pushB, get_putB, pickB_t, pickB_f, eqB_t, eqB_f, ltB_t, leB_t, AH.size_push, AH.size_put, AH.ro_push, AH.ro_put]
                have g7 := hEc.get _ _ g2
                simp (disch := omega) only [go_sem, Nat.reduceEqDiff, Nat.reduceAdd, ↓reduceIte, get_pushB, get_putB, pickB_t, pickB_f, eqB_t, eqB_f, ltB_t, leB_t, AH.size_push, AH.size_put, AH.ro_push, AH.ro_put, g7]
                refine SplitG.mk (fun hD1 => ?_) (fun hD1 => ?_)
                · simp (disch := omega) only [go_sem, Nat.reduceEqDiff, Nat.reduceAdd, ↓reduceIte, get_pushB, get_putB, pickB_t, pickB_f, eqB_t, eqB_f, ltB_t, leB_t, AH.size_push, AH.size_put, AH.ro_push, AH.ro_put]
                  refine callW_of (Between_ok ..) ?_
                  rintro r Hc' ⟨rfl, rfl⟩
                  simp (disch := omega) only [go_sem, Nat.reduceEqDiff, Nat.reduceAdd, ↓reduceIte, get_pushB, get_putB, pickB_t, pickB_f, eqB_t, eqB_f, ltB_t, leB_t, AH.size_push, AH.size_put, AH.ro_push, AH.ro_put]
                  refine Split.mk (fun hB => ?_) (fun hB => ?_)
                  · have hrem : ((n : Int)).tmod (p.D.length : Int) = ((n % p.D.length : Nat) : Int) := by rw [Int.ofNat_tmod]
                    have hrl : n % p.D.length < p.D.length := Nat.mod_lt _ (by omega)
                    obtain ⟨vdi, edi, hdi⟩ := ldII hD2 (n % p.D.length) hrl
                    simp (disch := omega) only [go_sem, Nat.reduceEqDiff, Nat.reduceAdd, ↓reduceIte, get_pushB, get_putB, pickB_t, pickB_f, eqB_t, eqB_f, ltB_t, leB_t, AH.size_push, AH.size_put, AH.ro_push, AH.ro_put, g7, hrem, ixII (Intss.mono hEc hD2), aload_ext hEc edi]
                    refine ⟨by omega, ?_⟩
                    refine callW_of (DoK_ok hv.ok Hc' (hro _ hEc) n (p.D[n % p.D.length]'hrl) one _ _ (Ints.mono hEc hdi) (Tens.mono hEc4 hOne) hOb.1) ?_
                    rcases doE_cases val k n (p.D[n % p.D.length]'hrl) one with ⟨e, he, hde⟩ | ⟨x, hok, hdp, hde⟩
                    · rw [hde]
                      rintro r G5 ⟨u, rfl, hu, hE5⟩
                      obtain ⟨ud, ux, rfl, hud, hux, _⟩ := id hu
                      obtain ⟨p1, c1, rfl⟩ := hud.ints.inv
                      obtain ⟨p2, c2, rfl⟩ := hux.ints.inv
                      have hE6 := hEc.trans hE5
                      have hr5 := hE5.ro
                      have hs5 := hE5.size
                      have hrc := hro _ hEc
                      simp (disch := omega) only [go_sem, Nat.reduceEqDiff, Nat.reduceAdd, ↓reduceIte, get_pushB, get_putB, pickB_t, pickB_f, eqB_t, eqB_f, ltB_t, leB_t, AH.size_push, AH.size_put, AH.ro_push, AH.ro_put]
                      refine callW_gen ?_
                      intro G6 hG6
                      have hE7 : Ext G2 G6 := by rw [hG6]; exact (hE6.pushed _).put (by have := hE6.size; omega) (by simp only [AH.size_push]; omega) _
                      have hE74 : Ext H4 G6 := hEc4.trans (hE5.trans (by rw [hG6]; exact (Ext.push _ _).put (by omega) (by simp only [AH.size_push]; omega) _))
                      clear hG6
                      refine callW_of (num_ok ..) ?_
                      rintro r G7 ⟨rfl, rfl⟩
                      have he' : decide (e ≠ 0) = true := by simp [he]
                      simp (disch := omega) only [go_sem, Nat.reduceEqDiff, Nat.reduceAdd, ↓reduceIte, get_pushB, get_putB, pickB_t, pickB_f, eqB_t, eqB_f, ltB_t, leB_t, AH.size_push, AH.size_put, AH.ro_push, AH.ro_put]
                      refine ih4 _ _ _ ?_ ⟨q + 1, _, _, _, _, _, _, by omega, rfl, hE74, rfl⟩
                      omega
                    · rw [hde]
                      rintro r G5 ⟨u, rfl, hu, hE5⟩
                      obtain ⟨ud, ux, rfl, hud, hux, _⟩ := id hu
                      obtain ⟨p1, c1, rfl⟩ := hud.ints.inv
                      obtain ⟨p2, c2, rfl⟩ := hux.ints.inv
                      have hE6 := hEc.trans hE5
                      have hr5 := hE5.ro
                      have hs5 := hE5.size
                      have hrc := hro _ hEc
                      simp (disch := omega) only [go_sem, Nat.reduceEqDiff, Nat.reduceAdd, ↓reduceIte, get_pushB, get_putB, pickB_t, pickB_f, eqB_t, eqB_f, ltB_t, leB_t, AH.size_push, AH.size_put, AH.ro_push, AH.ro_put]
                      refine callW_gen ?_
                      intro G6 hG6
                      have hE56 : Ext G5 G6 := by rw [hG6]; exact (Ext.push _ _).put (by omega) (by simp only [AH.size_push]; omega) _
                      have t6 : G6.get G5.size = some [.slice p1 x.length c1, .slice p2 (val n (p.D[n % p.D.length]'hrl) one).length c2] := by rw [hG6]; (try simp (disch := omega) only [get_pushB, get_putB, pickB_t, pickB_f, eqB_t, eqB_f, ltB_t, AH.size_push, AH.size_put, AH.ro_push, AH.ro_put])
                      have hE7 := hE6.trans hE56
                      have hEl := hE5.trans hE56
                      clear hG6
                      refine callW_of (num_ok ..) ?_
                      rintro r G7 ⟨rfl, rfl⟩
                      simp (disch := omega) only [go_sem, Nat.reduceEqDiff, Nat.reduceAdd, ↓reduceIte, get_pushB, get_putB, pickB_t, pickB_f, eqB_t, eqB_f, ltB_t, leB_t, AH.size_push, AH.size_put, AH.ro_push, AH.ro_put, Int.reduceEq, decide_true, decide_false, ne_eq, not_true_eq_false, not_false_eq_true]
                      refine callW_of (DimsOf_ok G7 (hro _ hE7) one _ (Tens.mono hEl (Tens.mono hEc4 hOne)) hOb.1) ?_
                      rintro r G8 ⟨hds, hE8⟩
                      obtain ⟨ps, cs, rfl⟩ := hds.inv
                      simp (disch := omega) only [go_sem, Nat.reduceEqDiff, Nat.reduceAdd, ↓reduceIte, get_pushB, get_putB, pickB_t, pickB_f, eqB_t, eqB_f, ltB_t, leB_t, AH.size_push, AH.size_put, AH.ro_push, AH.ro_put]
                      refine callW_of (Dims_ok G8 (hro _ (hE7.trans hE8)) k n (p.D[n % p.D.length]'hrl) _ _ _ (Ints.mono (hEl.trans hE8) (Ints.mono hEc hdi)) hds) ?_
                      have hdE : dimsE k n (p.D[n % p.D.length]'hrl) (one.map (·.1)) = (x, 0) := by simp only [dimsE, (doOk_form hok).2.2.2.1, hdp, if_true]
                      rw [hdE]
                      rintro r G9 ⟨w, rfl, hw, hE9⟩
                      obtain ⟨p3, c3, rfl⟩ := (OwnI.ints hw).inv
                      have hE79 := hE8.trans hE9
                      simp (disch := omega) only [go_sem, Nat.reduceEqDiff, Nat.reduceAdd, ↓reduceIte, get_pushB, get_putB, pickB_t, pickB_f, eqB_t, eqB_f, ltB_t, leB_t, AH.size_push, AH.size_put, AH.ro_push, AH.ro_put]
                      refine callW_of (num_ok ..) ?_
                      rintro r G10 ⟨rfl, rfl⟩
                      have t9 := hE79.get _ _ t6
                      simp (disch := omega) only [go_sem, Nat.reduceEqDiff, Nat.reduceAdd, ↓reduceIte, get_pushB, get_putB, pickB_t, pickB_f, eqB_t, eqB_f, ltB_t, leB_t, AH.size_push, AH.size_put, AH.ro_push, AH.ro_put, t9, Int.reduceEq, decide_true, decide_false, ne_eq, not_true_eq_false, not_false_eq_true]
                      have hx9 := Ints.mono (hE56.trans hE79) hud.ints
                      refine callW_of (EqNumbers_ok G10 x x _ _ (OwnI.ints hw) hx9) ?_
                      rintro r G11 ⟨rfl, rfl⟩
                      simp (disch := omega) only [go_sem, Nat.reduceEqDiff, Nat.reduceAdd, ↓reduceIte, get_pushB, get_putB, pickB_t, pickB_f, eqB_t, eqB_f, ltB_t, leB_t, AH.size_push, AH.size_put, AH.ro_push, AH.ro_put, t9, decide_true]
                      have hxx9 := Ints.mono (hE56.trans hE79) hux.ints
                      refine callW_of (RefTensor_ok G11 (x, val n (p.D[n % p.D.length]'hrl) one) _ ⟨_, _, rfl, hx9, hxx9⟩) ?_
                      rintro r G12 ⟨rfl, hE12⟩
                      have hisT : isT (x, val n (p.D[n % p.D.length]'hrl) one) = true := by
                        have h1 := dimsP_may (doOk_form hok).2.2.2.1 hdp
                        have h2 := hv.len (by omega) n (p.D[n % p.D.length]'hrl) one x hok hdp
                        have h3 := prodL_pos h1
                        simp only [isT, h1, h2, Bool.true_and, decide_eq_true_eq]
                        omega
                      simp (disch := omega) only [go_sem, Nat.reduceEqDiff, Nat.reduceAdd, ↓reduceIte, get_pushB, get_putB, pickB_t, pickB_f, eqB_t, eqB_f, ltB_t, leB_t, AH.size_push, AH.size_put, AH.ro_push, AH.ro_put, hisT]
                      have hE134 := hEc4.trans (((hE5.trans hE56).trans hE79).trans hE12)
                      refine ih4 _ _ _ ?_ ⟨q + 1, _, _, _, _, _, _, by omega, rfl, hE134, rfl⟩
                      omega
                  · simp (disch := omega) only [go_sem, Nat.reduceEqDiff, Nat.reduceAdd, ↓reduceIte, get_pushB, get_putB, pickB_t, pickB_f, eqB_t, eqB_f, ltB_t, leB_t, AH.size_push, AH.size_put, AH.ro_push, AH.ro_put]
                    refine callW_of (DoK_ok hv.ok Hc' (hro _ hEc) n [] one _ _ (Sl.nil _ _ _) (Tens.mono hEc4 hOne) hOb.1) ?_
                    rcases doE_cases val k n [] one with ⟨e, he, hde⟩ | ⟨x, hok, hdp, hde⟩
                    · rw [hde]
                      rintro r G5 ⟨u, rfl, hu, hE5⟩
                      obtain ⟨ud, ux, rfl, hud, hux, _⟩ := id hu
                      obtain ⟨p1, c1, rfl⟩ := hud.ints.inv
                      obtain ⟨p2, c2, rfl⟩ := hux.ints.inv
                      have hE6 := hEc.trans hE5
                      have hr5 := hE5.ro
                      have hs5 := hE5.size
                      have hrc := hro _ hEc
                      simp (disch := omega) only [go_sem, Nat.reduceEqDiff, Nat.reduceAdd, ↓reduceIte, get_pushB, get_putB, pickB_t, pickB_f, eqB_t, eqB_f, ltB_t, leB_t, AH.size_push, AH.size_put, AH.ro_push, AH.ro_put]
                      refine callW_gen ?_
                      intro G6 hG6
                      have hE7 : Ext G2 G6 := by rw [hG6]; exact (hE6.pushed _).put (by have := hE6.size; omega) (by simp only [AH.size_push]; omega) _
                      have hE74 : Ext H4 G6 := hEc4.trans (hE5.trans (by rw [hG6]; exact (Ext.push _ _).put (by omega) (by simp only [AH.size_push]; omega) _))
                      clear hG6
                      refine callW_of (num_ok ..) ?_
                      rintro r G7 ⟨rfl, rfl⟩
                      have he' : decide (e ≠ 0) = true := by simp [he]
                      simp (disch := omega) only [go_sem, Nat.reduceEqDiff, Nat.reduceAdd, ↓reduceIte, get_pushB, get_putB, pickB_t, pickB_f, eqB_t, eqB_f, ltB_t, leB_t, AH.size_push, AH.size_put, AH.ro_push, AH.ro_put]
                      refine ih4 _ _ _ ?_ ⟨q + 1, _, _, _, _, _, _, by omega, rfl, hE74, rfl⟩
                      omega
                    · rw [hde]
                      rintro r G5 ⟨u, rfl, hu, hE5⟩
                      obtain ⟨ud, ux, rfl, hud, hux, _⟩ := id hu
                      obtain ⟨p1, c1, rfl⟩ := hud.ints.inv
                      obtain ⟨p2, c2, rfl⟩ := hux.ints.inv
                      have hE6 := hEc.trans hE5
                      have hr5 := hE5.ro
                      have hs5 := hE5.size
                      have hrc := hro _ hEc
                      simp (disch := omega) only [go_sem, Nat.reduceEqDiff, Nat.reduceAdd, ↓reduceIte, get_pushB, get_putB, pickB_t, pickB_f, eqB_t, eqB_f, ltB_t, leB_t, AH.size_push, AH.size_put, AH.ro_push, AH.ro_put]
                      refine callW_gen ?_
                      intro G6 hG6
                      have hE56 : Ext G5 G6 := by rw [hG6]; exact (Ext.push _ _).put (by omega) (by simp only [AH.size_push]; omega) _
                      have t6 : G6.get G5.size = some [.slice p1 x.length c1, .slice p2 (val n [] one).length c2] := by rw [hG6]; (try simp (disch := omega) only [get_pushB, get_putB, pickB_t, pickB_f, eqB_t, eqB_f, ltB_t, AH.size_push, AH.size_put, AH.ro_push, AH.ro_put])
                      have hE7 := hE6.trans hE56
                      have hEl := hE5.trans hE56
                      clear hG6
                      refine callW_of (num_ok ..) ?_
                      rintro r G7 ⟨rfl, rfl⟩
                      simp (disch := omega) only [go_sem, Nat.reduceEqDiff, Nat.reduceAdd, ↓reduceIte, get_pushB, get_putB, pickB_t, pickB_f, eqB_t, eqB_f, ltB_t, leB_t, AH.size_push, AH.size_put, AH.ro_push, AH.ro_put, Int.reduceEq, decide_true, decide_false, ne_eq, not_true_eq_false, not_false_eq_true]
                      refine callW_of (DimsOf_ok G7 (hro _ hE7) one _ (Tens.mono hEl (Tens.mono hEc4 hOne)) hOb.1) ?_
                      rintro r G8 ⟨hds, hE8⟩
                      obtain ⟨ps, cs, rfl⟩ := hds.inv
                      simp (disch := omega) only [go_sem, Nat.reduceEqDiff, Nat.reduceAdd, ↓reduceIte, get_pushB, get_putB, pickB_t, pickB_f, eqB_t, eqB_f, ltB_t, leB_t, AH.size_push, AH.size_put, AH.ro_push, AH.ro_put]
                      refine callW_of (Dims_ok G8 (hro _ (hE7.trans hE8)) k n [] _ _ _ (Ints.mono (hEl.trans hE8) (Sl.nil _ _ _)) hds) ?_
                      have hdE : dimsE k n [] (one.map (·.1)) = (x, 0) := by simp only [dimsE, (doOk_form hok).2.2.2.1, hdp, if_true]
                      rw [hdE]
                      rintro r G9 ⟨w, rfl, hw, hE9⟩
                      obtain ⟨p3, c3, rfl⟩ := (OwnI.ints hw).inv
                      have hE79 := hE8.trans hE9
                      simp (disch := omega) only [go_sem, Nat.reduceEqDiff, Nat.reduceAdd, ↓reduceIte, get_pushB, get_putB, pickB_t, pickB_f, eqB_t, eqB_f, ltB_t, leB_t, AH.size_push, AH.size_put, AH.ro_push, AH.ro_put]
                      refine callW_of (num_ok ..) ?_
                      rintro r G10 ⟨rfl, rfl⟩
                      have t9 := hE79.get _ _ t6
                      simp (disch := omega) only [go_sem, Nat.reduceEqDiff, Nat.reduceAdd, ↓reduceIte, get_pushB, get_putB, pickB_t, pickB_f, eqB_t, eqB_f, ltB_t, leB_t, AH.size_push, AH.size_put, AH.ro_push, AH.ro_put, t9, Int.reduceEq, decide_true, decide_false, ne_eq, not_true_eq_false, not_false_eq_true]
                      have hx9 := Ints.mono (hE56.trans hE79) hud.ints
                      refine callW_of (EqNumbers_ok G10 x x _ _ (OwnI.ints hw) hx9) ?_
                      rintro r G11 ⟨rfl, rfl⟩
                      simp (disch := omega) only [go_sem, Nat.reduceEqDiff, Nat.reduceAdd, ↓reduceIte, get_pushB, get_putB, pickB_t, pickB_f, eqB_t, eqB_f, ltB_t, leB_t, AH.size_push, AH.size_put, AH.ro_push, AH.ro_put, t9, decide_true]
                      have hxx9 := Ints.mono (hE56.trans hE79) hux.ints
                      refine callW_of (RefTensor_ok G11 (x, val n [] one) _ ⟨_, _, rfl, hx9, hxx9⟩) ?_
                      rintro r G12 ⟨rfl, hE12⟩
                      have hisT : isT (x, val n [] one) = true := by
                        have h1 := dimsP_may (doOk_form hok).2.2.2.1 hdp
                        have h2 := hv.len (by omega) n [] one x hok hdp
                        have h3 := prodL_pos h1
                        simp only [isT, h1, h2, Bool.true_and, decide_eq_true_eq]
                        omega
                      simp (disch := omega) only [go_sem, Nat.reduceEqDiff, Nat.reduceAdd, ↓reduceIte, get_pushB, get_putB, pickB_t, pickB_f, eqB_t, eqB_f, ltB_t, leB_t, AH.size_push, AH.size_put, AH.ro_push, AH.ro_put, hisT]
                      have hE134 := hEc4.trans (((hE5.trans hE56).trans hE79).trans hE12)
                      refine ih4 _ _ _ ?_ ⟨q + 1, _, _, _, _, _, _, by omega, rfl, hE134, rfl⟩
                      omega
                · simp (disch := omega) only [go_sem, Nat.reduceEqDiff, Nat.reduceAdd, ↓reduceIte, get_pushB, get_putB, pickB_t, pickB_f, eqB_t, eqB_f, ltB_t, leB_t, AH.size_push, AH.size_put, AH.ro_push, AH.ro_put]
                  refine callW_of (DoK_ok hv.ok Hc (hro _ hEc) n [] one _ _ (Sl.nil _ _ _) (Tens.mono hEc4 hOne) hOb.1) ?_
                  rcases doE_cases val k n [] one with ⟨e, he, hde⟩ | ⟨x, hok, hdp, hde⟩
                  · rw [hde]
                    rintro r G5 ⟨u, rfl, hu, hE5⟩
                    obtain ⟨ud, ux, rfl, hud, hux, _⟩ := id hu
                    obtain ⟨p1, c1, rfl⟩ := hud.ints.inv
                    obtain ⟨p2, c2, rfl⟩ := hux.ints.inv
                    have hE6 := hEc.trans hE5
                    have hr5 := hE5.ro
                    have hs5 := hE5.size
                    have hrc := hro _ hEc
                    simp (disch := omega) only [go_sem, Nat.reduceEqDiff, Nat.reduceAdd, ↓reduceIte, get_pushB, get_putB, pickB_t, pickB_f, eqB_t, eqB_f, ltB_t, leB_t, AH.size_push, AH.size_put, AH.ro_push, AH.ro_put]
                    refine callW_gen ?_
                    intro G6 hG6
                    have hE7 : Ext G2 G6 := by rw [hG6]; exact (hE6.pushed _).put (by have := hE6.size; omega) (by simp only [AH.size_push]; omega) _
                    have hE74 : Ext H4 G6 := hEc4.trans (hE5.trans (by rw [hG6]; exact (Ext.push _ _).put (by omega) (by simp only [AH.size_push]; omega) _))
                    clear hG6
                    refine callW_of (num_ok ..) ?_
                    rintro r G7 ⟨rfl, rfl⟩
                    have he' : decide (e ≠ 0) = true := by simp [he]
                    simp (disch := omega) only [go_sem, Nat.reduceEqDiff, Nat.reduceAdd, ↓reduceIte, get_pushB, get_putB, pickB_t, pickB_f, eqB_t, eqB_f, ltB_t, leB_t, AH.size_push, AH.size_put, AH.ro_push, AH.ro_put]
                    refine ih4 _ _ _ ?_ ⟨q + 1, _, _, _, _, _, _, by omega, rfl, hE74, rfl⟩
                    omega
                  · rw [hde]
                    rintro r G5 ⟨u, rfl, hu, hE5⟩
                    obtain ⟨ud, ux, rfl, hud, hux, _⟩ := id hu
                    obtain ⟨p1, c1, rfl⟩ := hud.ints.inv
                    obtain ⟨p2, c2, rfl⟩ := hux.ints.inv
                    have hE6 := hEc.trans hE5
                    have hr5 := hE5.ro
                    have hs5 := hE5.size
                    have hrc := hro _ hEc
                    simp (disch := omega) only [go_sem, Nat.reduceEqDiff, Nat.reduceAdd, ↓reduceIte, get_pushB, get_putB, pickB_t, pickB_f, eqB_t, eqB_f, ltB_t, leB_t, AH.size_push, AH.size_put, AH.ro_push, AH.ro_put]
                    refine callW_gen ?_
                    intro G6 hG6
                    have hE56 : Ext G5 G6 := by rw [hG6]; exact (Ext.push _ _).put (by omega) (by simp only [AH.size_push]; omega) _
                    have t6 : G6.get G5.size = some [.slice p1 x.length c1, .slice p2 (val n [] one).length c2] := by rw [hG6]; (try simp (disch := omega) only [get_pushB, get_putB, pickB_t, pickB_f, eqB_t, eqB_f, ltB_t, AH.size_push, AH.size_put, AH.ro_push, AH.ro_put])
                    have hE7 := hE6.trans hE56
                    have hEl := hE5.trans hE56
                    clear hG6
                    refine callW_of (num_ok ..) ?_
                    rintro r G7 ⟨rfl, rfl⟩
                    simp (disch := omega) only [go_sem, Nat.reduceEqDiff, Nat.reduceAdd, ↓reduceIte, get_pushB, get_putB, pickB_t, pickB_f, eqB_t, eqB_f, ltB_t, leB_t, AH.size_push, AH.size_put, AH.ro_push, AH.ro_put, Int.reduceEq, decide_true, decide_false, ne_eq, not_true_eq_false, not_false_eq_true]
                    refine callW_of (DimsOf_ok G7 (hro _ hE7) one _ (Tens.mono hEl (Tens.mono hEc4 hOne)) hOb.1) ?_
                    rintro r G8 ⟨hds, hE8⟩
                    obtain ⟨ps, cs, rfl⟩ := hds.inv
                    simp (disch := omega) only [go_sem, Nat.reduceEqDiff, Nat.reduceAdd, ↓reduceIte, get_pushB, get_putB, pickB_t, pickB_f, eqB_t, eqB_f, ltB_t, leB_t, AH.size_push, AH.size_put, AH.ro_push, AH.ro_put]
                    refine callW_of (Dims_ok G8 (hro _ (hE7.trans hE8)) k n [] _ _ _ (Ints.mono (hEl.trans hE8) (Sl.nil _ _ _)) hds) ?_
                    have hdE : dimsE k n [] (one.map (·.1)) = (x, 0) := by simp only [dimsE, (doOk_form hok).2.2.2.1, hdp, if_true]
                    rw [hdE]
                    rintro r G9 ⟨w, rfl, hw, hE9⟩
                    obtain ⟨p3, c3, rfl⟩ := (OwnI.ints hw).inv
                    have hE79 := hE8.trans hE9
                    simp (disch := omega) only [go_sem, Nat.reduceEqDiff, Nat.reduceAdd, ↓reduceIte, get_pushB, get_putB, pickB_t, pickB_f, eqB_t, eqB_f, ltB_t, leB_t, AH.size_push, AH.size_put, AH.ro_push, AH.ro_put]
                    refine callW_of (num_ok ..) ?_
                    rintro r G10 ⟨rfl, rfl⟩
                    have t9 := hE79.get _ _ t6
                    simp (disch := omega) only [go_sem, Nat.reduceEqDiff, Nat.reduceAdd, ↓reduceIte, get_pushB, get_putB, pickB_t, pickB_f, eqB_t, eqB_f, ltB_t, leB_t, AH.size_push, AH.size_put, AH.ro_push, AH.ro_put, t9, Int.reduceEq, decide_true, decide_false, ne_eq, not_true_eq_false, not_false_eq_true]
                    have hx9 := Ints.mono (hE56.trans hE79) hud.ints
                    refine callW_of (EqNumbers_ok G10 x x _ _ (OwnI.ints hw) hx9) ?_
                    rintro r G11 ⟨rfl, rfl⟩
                    simp (disch := omega) only [go_sem, Nat.reduceEqDiff, Nat.reduceAdd, ↓reduceIte, get_pushB, get_putB, pickB_t, pickB_f, eqB_t, eqB_f, ltB_t, leB_t, AH.size_push, AH.size_put, AH.ro_push, AH.ro_put, t9, decide_true]
                    have hxx9 := Ints.mono (hE56.trans hE79) hux.ints
                    refine callW_of (RefTensor_ok G11 (x, val n [] one) _ ⟨_, _, rfl, hx9, hxx9⟩) ?_
                    rintro r G12 ⟨rfl, hE12⟩
                    have hisT : isT (x, val n [] one) = true := by
                      have h1 := dimsP_may (doOk_form hok).2.2.2.1 hdp
                      have h2 := hv.len (by omega) n [] one x hok hdp
                      have h3 := prodL_pos h1
                      simp only [isT, h1, h2, Bool.true_and, decide_eq_true_eq]
                      omega
                    simp (disch := omega) only [go_sem, Nat.reduceEqDiff, Nat.reduceAdd, ↓reduceIte, get_pushB, get_putB, pickB_t, pickB_f, eqB_t, eqB_f, ltB_t, leB_t, AH.size_push, AH.size_put, AH.ro_push, AH.ro_put, hisT]
                    have hE134 := hEc4.trans (((hE5.trans hE56).trans hE79).trans hE12)
                    refine ih4 _ _ _ ?_ ⟨q + 1, _, _, _, _, _, _, by omega, rfl, hE134, rfl⟩
                    omega
            · simp (disch := omega) only [go_sem, Nat.reduceEqDiff, Nat.reduceAdd, ↓reduceIte, get_pushB, get_putB, pickB_t, pickB_f, eqB_t, eqB_f, ltB_t, leB_t, AH.size_push, AH.size_put, AH.ro_push, AH.ro_put]
              refine ih3 _ _ _ ?_ ⟨n + 1, _, _, _, _, _, _, _, _, _, by omega, rfl, hEc, rfl⟩
              omega
          · simp (disch := omega) only [go_sem, Nat.reduceEqDiff, Nat.reduceAdd, ↓reduceIte, get_pushB, get_putB, pickB_t, pickB_f, eqB_t, eqB_f, ltB_t, leB_t, AH.size_push, AH.size_put, AH.ro_push, AH.ro_put]
            refine ih2 _ _ _ ?_ ⟨i + 1, _, _, _, _, _, _, _, _, _, _, by omega, rfl, hE, rfl⟩
            omega
        · simp (disch := omega) only [go_sem, Nat.reduceEqDiff, Nat.reduceAdd, ↓reduceIte, get_pushB, get_putB, pickB_t, pickB_f, eqB_t, eqB_f, ltB_t, leB_t, AH.size_push, AH.size_put, AH.ro_push, AH.ro_put]
          refine ih1 _ _ _ ?_ ⟨k + 1, _, _, _, _, _, _, _, _, _, _, _, by omega, by omega, rfl, hE, rfl⟩
          omega
      · simp (disch := omega) only [go_sem, Nat.reduceEqDiff, Nat.reduceAdd, ↓reduceIte, get_pushB, get_putB, pickB_t, pickB_f, eqB_t, eqB_f, ltB_t, leB_t, AH.size_push, AH.size_put, AH.ro_push, AH.ro_put]
        refine ih1 _ _ _ ?_ ⟨k + 1, _, _, _, _, _, _, _, _, _, _, _, by omega, by omega, rfl, hE, rfl⟩
        omega
    · simp (disch := omega) only [go_sem, Nat.reduceEqDiff, Nat.reduceAdd, ↓reduceIte, get_pushB, get_putB, pickB_t, pickB_f, eqB_t, eqB_f, ltB_t, leB_t, AH.size_push, AH.size_put, AH.ro_push, AH.ro_put]
      refine callW_of (wakes_ok H' (hro _ hE)) ?_
      rintro r H2 ⟨rfl, hE2⟩
      simp (disch := omega) only [go_sem, Nat.reduceEqDiff, Nat.reduceAdd, ↓reduceIte, get_pushB, get_putB, pickB_t, pickB_f, eqB_t, eqB_f, ltB_t, leB_t, AH.size_push, AH.size_put, AH.ro_push, AH.ro_put]
end Go.Proofs.K
namespace Go.Proofs.Ytcbmnjhdeklkmaa.kernelDims
open Go.ChangeShapes Go.WideShapes Go.ChangeAt Go.RowKit
theorem own : ownKnob Try.prog.godebug = none := by kernel_rfl
theorem laidOut : laidOutB Try.prog = true := by kernel_rfl
set_option maxRecDepth 100000 in
theorem lifted (os : Os) (started : os.Started) (H : Type) (enc : TypeId × Value → H) :
    ReturnsInHanded {} Try.checked os 4 .any (Rows.kernelDimsSpec.pre6 enc Try.prog Try.f4 Rows.kernelDimsRow.domain false) (Rows.kernelDimsSpec.post enc Try.prog Try.f4 false true false false) := by
  refine returnsInHanded_of_change_sized (C := Try.checked) own started (by kernel_rfl) Try.func4
    (ChangeSpec.witness6 (enc := enc) (C := Try.checked) false ⟨#[], #[.agg #[.slice none 0 0, .slice none 0 0, .slice none 0 0, .slice none 0 0]], []⟩ 8 (by kernel_rfl) (by kernel_rfl) (by kernel_rfl) (by kernel_rfl)) ?_
  intro W base args ds gs before hval0 hW hcnd hsz0 _
  have hsz : (DataW.weightsEach Try.prog (Try.f4.params.toList ++ Rows.kernelDimsSpec.plain.varTypes Try.prog) (ds ++ gs)).all (· ≤ reachBytes) = true := hsz0
  have hval : ∀ (j : Nat) t v, Try.f4.params[j]? = some t → args[j]? = some v → Value.okWide Try.prog W .any base t v := hval0
  have hW' := hW
  obtain ⟨p, q, hA0, hV, rfl, hfz, hnd⟩ := hW
  have hA : DataW.TrodAll enc Try.prog W 0 (fun _ => true) true Try.f4.params.toList args.toList ds p := hA0
  rw [Try.params4] at hA hval hsz
  obtain ⟨v0, vs0, d0, ds0, p0, q0, hargs, rfl, rfl, h0, r0⟩ := trodAll_cons hA
  obtain ⟨rfl, rfl, rfl⟩ := trodAll_nil r0
  obtain rfl : args = #[v0] := by cases args; simp_all
  obtain ⟨rfl, rfl⟩ := trodVars_none hV
  have k0 := h0
  have lt0 : ∀ x ∈ p0, x.block < W.heap.size := by obtain ⟨m, hm⟩ := k0; exact DataW.trod_lt m _ _ _ hm
  obtain ⟨cs, rfl, hcs⟩ := okWide_struct Try.underlying28 (hval 0 28 v0 rfl rfl)
  have hw : ∀ n ∈ d0.weights Try.prog 28, n ≤ reachBytes := fun n hn => by
    have := List.all_eq_true.1 hsz n (DataW.weights_mem_each (j := 0) rfl rfl n hn)
    simpa using this
  clear hA0 hval0 hsz0 hsz
  refine (Ab.law_calls (m := 8) K.tb_ok (fun _ => rfl) K.ty28 hcs (by kernel_rfl) k0 hw fun H xs dt hro hxl hr => ?_).mono fun e W' ⟨he, bel⟩ => ?_
  · obtain ⟨vt, vn, vd, vk, a, rfl, ha⟩ := K.repAsk hxl hr
    exact K.KernelDims_ok H (by omega) a vt vn vd vk ha
  subst he
  exact ⟨_, rfl, _, _, _, [], _, [], hW', trodAll_mk1 (shut_bool Try.underlying4 _), (trodAll_cons_mk (Below.trod laidOut (by kernel_rfl) (of_decide_eq_true (by kernel_rfl)) k0 bel lt0) trodAll_mk0), rfl, bel.frame _, fun h => by cases h⟩
theorem over : Rows.kernelDimsRow.holds Try.pinned (OpenSpec.ofChange Rows.kernelDimsSpec) :=
  OpenClaim.holds_of_wide 4 Try.f4 rfl rfl rfl rfl rfl rfl rfl ⟨rfl, rfl, rfl, rfl, rfl⟩ rfl rfl rfl rfl rfl (by kernel_rfl) Try.func4 (by kernel_rfl)
    (of_decide_eq_true (by kernel_rfl)) (by unfold Func.isWrapper; first | (rw [if_pos (by decide +kernel)]; kernel_rfl) | (rw [if_neg (by decide +kernel)]; exact ⟨rfl, rfl⟩))
    (fun os started H enc _ => lifted os started H enc)
end Go.Proofs.Ytcbmnjhdeklkmaa.kernelDims
namespace Go.Proofs.Ytcbmnjhdeklkmaa
theorem kernelDims_holds : Rows.KernelDimsSaid := kernelDims.over
#print axioms kernelDims_holds
end Go.Proofs.Ytcbmnjhdeklkmaa
