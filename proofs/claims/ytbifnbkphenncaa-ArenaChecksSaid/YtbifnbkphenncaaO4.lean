/- Arena: insertion by hand, plainly. -/
import Derived.Test.YtbifnbkphenncaaP9
set_option linter.unusedVariables false
set_option maxRecDepth 8000
set_option maxHeartbeats 4000000
set_option linter.unusedSimpArgs false
namespace Go.Proofs.A
open Go Go.Ab
theorem mid_set {α : Type} (A B : List α) (x y : α) : (A ++ x :: B).set A.length y = A ++ y :: B := by
  induction A with
  | nil => rfl
  | cons a A ih => simp [ih]
/-- A hole at the n-th place. -/
def hole (T : List Nat) (n : Nat) (x : Nat) : List Nat := T.take n ++ x :: T.drop n
theorem hole_len (T : List Nat) (n x : Nat) : (hole T n x).length = T.length + 1 := by
  unfold hole; simp; omega
theorem hole_end (T : List Nat) (x : Nat) : hole T T.length x = T ++ [x] := by simp [hole]
theorem hole_set (T : List Nat) (n x y : Nat) (h : n ≤ T.length) : (hole T n x).set n y = hole T n y := by
  unfold hole
  have := mid_set (T.take n) (T.drop n) x y
  rwa [show (T.take n).length = n by simp; omega] at this
theorem hole_before (T : List Nat) (n x : Nat) (h : n < T.length) : (hole T (n + 1) x)[n]? = some T[n] := by
  unfold hole
  rw [List.getElem?_append_left (by simp; omega), List.getElem?_take, if_pos (by omega), List.getElem?_eq_getElem h]
theorem hole_step (T : List Nat) (n x : Nat) (h : n < T.length) : (hole T (n + 1) x).set (n + 1) T[n] = hole T n T[n] := by
  rw [hole_set _ _ _ _ (by omega)]
  unfold hole
  rw [← List.take_append_getElem h, List.append_assoc]
  congr 1
  rw [List.drop_eq_getElem_cons h]
  rfl
theorem hole_perm (T : List Nat) (n x : Nat) : (hole T n x).Perm (T ++ [x]) := by
  unfold hole
  refine List.perm_middle.trans ?_
  rw [List.take_append_drop]
  exact (List.perm_append_singleton x T).symm
theorem hole_asc (sp : Nat → Sp) (T : List Nat) (n k : Nat) (hn : n ≤ T.length) (ha : Asc (T.map sp)) (h1 : n = 0 ∨ ∃ q, T[n - 1]? = some q ∧ (sp q).1 ≤ (sp k).1) (h2 : ∀ q ∈ T.drop n, (sp k).1 ≤ (sp q).1) : Asc ((hole T n k).map sp) := by
  have ha : T.Pairwise fun x y => (sp x).1 ≤ (sp y).1 := (List.pairwise_map (f := sp) (R := fun x y : Sp => x.1 ≤ y.1)).1 ha
  have h3 : ∀ q ∈ T.take n, (sp q).1 ≤ (sp k).1 := by
    intro q hq
    rcases h1 with rfl | ⟨z, hz, hzk⟩
    · simp at hq
    · obtain ⟨j, hj, e⟩ := List.mem_iff_getElem.1 hq
      have hj' : j < n := by simp at hj; omega
      rw [List.getElem_take] at e
      obtain ⟨hz1, hz2⟩ := List.getElem?_eq_some_iff.1 hz
      have : (sp q).1 ≤ (sp z).1 := by
        rw [← e, ← hz2]
        rcases Nat.lt_or_ge j (n - 1) with h | h
        · exact List.pairwise_iff_getElem.1 ha j (n - 1) (by omega) hz1 h
        · have : j = n - 1 := by omega
          subst this
          exact Int.le_refl _
      omega
  refine (List.pairwise_map (f := sp) (R := fun x y : Sp => x.1 ≤ y.1)).2 ?_
  unfold hole
  refine List.pairwise_append.2 ⟨ha.sublist (List.take_sublist n T), List.pairwise_cons.2 ⟨h2, ha.sublist (List.drop_sublist n T)⟩, fun x hx y hy => ?_⟩
  have hxk := h3 x hx
  rcases List.mem_cons.1 hy with rfl | hy
  · exact hxk
  · have := h2 y hy; omega
theorem gi_map (T : List Nat) (j q : Nat) (h : T[j]? = some q) : gi (T.map fun q : Nat => (q : Int)) (j : Int) = (q : Int) := by
  simp [gi, List.getD_eq_getElem?_getD, h]
theorem gi_nat (l : List Int) (k : Nat) : gi l (k : Int) = l[k]! := by
  rw [List.getElem!_eq_getElem?_getD]; simp [gi]
theorem map_setN (T : List Nat) (n y : Nat) : (T.map fun q : Nat => (q : Int)).set n (y : Int) = (T.set n y).map fun q : Nat => (q : Int) := by
  rw [List.map_set]
/-- The place of what comes, from the sorted spans that are there. -/
theorem sorted_is {l : List Lf} (hm : mayL l = true) (i : Nat) (hi : i < l.length) (m : List Sp) (hp : m.Perm (thereP l (placeL l i) i i)) (ha : Asc m) : m = sortL (thereL l (placeL l i) i) := by
  obtain ⟨hd, hb⟩ := place_step hm i hi (placeL_apart hm i (by omega))
  exact (sortL_eq _ m hp ha (keys_of hd (fun x hx => (hb x hx).2))).symm
end Go.Proofs.A
set_option linter.unusedVariables false
set_option maxRecDepth 8000
set_option maxHeartbeats 4000000
set_option linter.unusedSimpArgs false
namespace Go.Proofs.A
open Go Go.Ab
theorem OwnI.set {H0 H : AH} {b n c : Nat} {l : List Int} (h : OwnI H0 H (.slice (some ⟨b, 0, none⟩) n c) l) (z x : Int) (hz : 0 ≤ z ∧ z < l.length) : astore tb 3 (elp (some ⟨b, 0, none⟩) c z 0) (.int .i64 x) H = some (H.put b (some ((l.set z.toNat x).map (.int .i64)))) ∧ OwnI H0 (H.put b (some ((l.set z.toNat x).map (.int .i64)))) (.slice (some ⟨b, 0, none⟩) n c) (l.set z.toNat x) ∧ b < H.size ∧ H0.size ≤ b := by
  unfold OwnI at h
  generalize hN : l.length = N at h
  generalize hX : l.map (Value.int .i64) = X at h
  cases h with
  | mk _ _ _ hb hro hr hg hl hn =>
    subst hN hX
    have hs := AH.lt_of_get hg
    refine ⟨?_, ?_, hs, hb⟩
    · rw [astore_own ty3 rfl rfl rfl (by omega) hg z (by simpa using hz)]
      rw [List.map_set]
    · unfold OwnI
      rw [List.length_set]
      refine .mk b _ _ hb hro hr ?_ (by simp) hn
      rw [AH.get_put _ _ _ _ hs, if_pos rfl]
theorem OwnI.block {H0 H : AH} {v : Value} {l : List Int} (h : OwnI H0 H v l) (hl : l ≠ []) : ∃ b, v = .slice (some ⟨b, 0, none⟩) l.length 1 := by
  unfold OwnI at h
  generalize hN : l.length = N at h
  generalize hX : l.map (Value.int .i64) = X at h
  cases h with
  | nil => exact absurd (List.eq_nil_of_length_eq_zero hN) hl
  | mk b _ _ => exact ⟨b, rfl⟩

/-- Dims whose last one is so many times less. -/
def spn (l : List Lf) (ps : List Int) (q : Nat) : Sp := (ps[q]!, ps[q]! + l[q]!.s)
def natI (T : List Nat) : List Int := T.map fun q : Nat => (q : Int)
theorem natI_len (T : List Nat) : (natI T).length = T.length := by simp [natI]
theorem RefPlace_ok (H : AH) (hr0 : H.ro ≤ H.size) (l : List Lf) (v : Value) (h : Lfs H v l) (hm : mayL l = true) : Runs tb 16 [v] H (fun r H' => OwnI H H' r (placeL l l.length) ∧ Ext H H') := by
  obtain ⟨a, c, rfl⟩ := h.inv
  have hlen := mayL_len hm
  refine Runs_fn (fn := Try.f16) [.tmp 2] [0, 2, 3, 4, 5, 6, 7, 8, 9, 10, 11, 12] [] 3000 (by kernel_rfl) rfl (by kernel_rfl) (by kernel_rfl) rfl ?_; simp only [pad, argAt]
  simp (disch := omega) only [go_sem, Nat.reduceEqDiff, Nat.reduceAdd, ↓reduceIte, get_pushB, get_putB, pickB_t, pickB_f, eqB_t, eqB_f, ltB_t, leB_t, AH.size_push, AH.size_put, AH.ro_push, AH.ro_put]
  refine Sat_loop 3000 (fun k K V => ∃ (i : Nat) (va x5 x6 x7 x8 x9 x10 x11 x12 : Value), i ≤ l.length ∧ k = l.length - i ∧ Ext H K ∧ OwnI H K va (placeL l i) ∧ V = [.slice a l.length c, .slice none 0 0, va, .int .i64 i, x5, x6, x7, x8, x9, x10, x11, x12]) l.length ⟨0, _, _, _, _, _, _, _, _, _, by omega, rfl, Ext.refl _, OwnI.nil H H, rfl⟩ ?_
  rintro k K V ⟨i, va, x5, x6, x7, x8, x9, x10, x11, x12, hi, rfl, hE, hva, rfl⟩ ih
  have hrK : K.ro ≤ K.size := by have := hE.ro; have := hE.size; omega
  simp (disch := omega) only [go_sem, Nat.reduceEqDiff, Nat.reduceAdd, ↓reduceIte, get_pushB, get_putB, pickB_t, pickB_f, eqB_t, eqB_f, ltB_t, leB_t, AH.size_push, AH.size_put, AH.ro_push, AH.ro_put]
  refine Split.mk (fun h1 => ?_) (fun h1 => ?_)
  · have hlt : i < l.length := by omega
    have hK := h.ext hE
    obtain ⟨ps, hps⟩ : ∃ ps, ps = placeL l i := ⟨_, rfl⟩
    have hpl : ps.length = i := by rw [hps, placeL_len]
    have hpb : ∀ q, q < i → 0 ≤ ps[q]! ∧ ps[q]! ≤ 4096 * 300 := fun q hq => by
      have h5 := placeL_bd l i (fun k hk => by have := okL_of hm (show k < l.length by omega); omega) ps[q]! (by rw [← hps, List.getElem!_eq_getElem?_getD, List.getElem?_eq_getElem (by omega)]; exact List.getElem_mem _)
      omega
    have oi := okL_of hm hlt
    simp (disch := omega) only [go_sem, Nat.reduceEqDiff, Nat.reduceAdd, ↓reduceIte, get_pushB, get_putB, pickB_t, pickB_f, eqB_t, eqB_f, ltB_t, leB_t, AH.size_push, AH.size_put, AH.ro_push, AH.ro_put]
    refine Sat_loop 3000 (fun kk M V => ∃ (k : Nat) (vt y7 : Value) (T : List Nat), k ≤ i ∧ kk = i - k ∧ Ext K M ∧ OwnI K M vt (natI T) ∧ T.length ≤ k ∧ (∀ q ∈ T, q < k) ∧ (T.map (spn l ps)).Perm (thereP l ps i k) ∧ Asc (T.map (spn l ps)) ∧ V = [.slice a l.length c, .slice none 0 0, va, .int .i64 i, vt, .int .i64 k, y7, x8, x9, x10, x11, x12]) i ⟨0, _, _, [], by omega, rfl, Ext.refl _, OwnI.nil K K, by simp, by simp, List.Perm.refl _, List.Pairwise.nil, rfl⟩ ?_
    rintro kk M V ⟨k, vt, y7, T, hk, rfl, hEM, hvt, hTl, hTk, hTp, hTa, rfl⟩ ih2
    have hrM : M.ro ≤ M.size := by have := hEM.ro; have := hEM.size; omega
    simp (disch := omega) only [go_sem, Nat.reduceEqDiff, Nat.reduceAdd, ↓reduceIte, get_pushB, get_putB, pickB_t, pickB_f, eqB_t, eqB_f, ltB_t, leB_t, AH.size_push, AH.size_put, AH.ro_push, AH.ro_put]
    refine Split.mk (fun h2 => ?_) (fun h2 => ?_)
    · have hki : k < i := by omega
      have hLM := hK.ext hEM
      have y2 := ixL hLM .i64 (k : Int) (by omega)
      have f2 := (faL hLM (k : Int) (by omega)).2.1
      have z2 := (lfL hLM (k : Int) (by omega)).2.1
      have y3 := ixL hLM .i64 (i : Int) (by omega)
      have f3 := (faL hLM (i : Int) (by omega)).1
      have z3 := (lfL hLM (i : Int) (by omega)).1
      simp only [Int.toNat_natCast] at z2 z3
      simp (disch := omega) only [go_sem, Nat.reduceEqDiff, Nat.reduceAdd, ↓reduceIte, get_pushB, get_putB, pickB_t, pickB_f, eqB_t, eqB_f, ltB_t, leB_t, AH.size_push, AH.size_put, AH.ro_push, AH.ro_put, y2, f2, z2, y3, f3, z3]
      refine Split.mk (fun h3 => ?_) (fun h3 => ?_)
      · simp (disch := omega) only [go_sem, Nat.reduceEqDiff, Nat.reduceAdd, ↓reduceIte, get_pushB, get_putB, pickB_t, pickB_f, eqB_t, eqB_f, ltB_t, leB_t, AH.size_push, AH.size_put, AH.ro_push, AH.ro_put]
        refine ih2 _ _ _ ?_ ⟨k + 1, vt, _, T, by omega, rfl, hEM, hvt, by omega, fun q hq => by have := hTk q hq; omega, by rw [thereP_no _ _ _ _ (by omega)]; exact hTp, hTa, by simp only [Int.natCast_add]; rfl⟩
        omega
      · obtain ⟨ta, tc, rfl⟩ := hvt.ints.inv
        have hEp := Ext.push M [.int .i64 (k : Int)]
        obtain ⟨v', N, ea, ho, hEN⟩ := OwnI.app (hvt.ext hEp) hrK (hEM.trans hEp) (x := .slice (some ⟨M.size, 0, none⟩) 1 1) (m := [(k : Int)]) rfl (afirst_block (by rw [AH.get_push, if_pos rfl]; rfl) rfl) (by simp [natI_len]; omega)
        have hnl := natI_len T
        simp (disch := omega) only [go_sem, Nat.reduceEqDiff, Nat.reduceAdd, ↓reduceIte, get_pushB, get_putB, pickB_t, pickB_f, eqB_t, eqB_f, ltB_t, leB_t, AH.size_push, AH.size_put, AH.ro_push, AH.ro_put, bslice_1 stI (.int .i64 (k : Int)) rfl, ea]
        obtain ⟨b, rfl⟩ := ho.block (by simp)
        have hlb : (natI T ++ [(k : Int)]).length = T.length + 1 := by simp [natI_len]
        have hoe : natI T ++ [(k : Int)] = natI (hole T T.length k) := by rw [hole_end]; simp [natI]
        rw [hlb] at ho ⊢
        rw [hoe] at ho
        refine Sat_loop 3000 (fun kn N2 V => ∃ (n X : Nat), n ≤ T.length ∧ n = kn ∧ Ext K N2 ∧ OwnI K N2 (.slice (some ⟨b, 0, none⟩) (T.length + 1) 1) (natI (hole T n X)) ∧ (∀ q ∈ T.drop n, ps[k]! ≤ ps[q]!) ∧ V = [.slice a l.length c, .slice none 0 0, va, .int .i64 i, .slice (some ⟨b, 0, none⟩) (T.length + 1) 1, .int .i64 k, .int .i64 n, x8, x9, x10, x11, x12]) T.length ⟨T.length, k, by omega, rfl, hEN, ho, by simp, by rw [hnl]⟩ ?_
        rintro kn N2 V ⟨n, X, hn, rfl, hEN2, ho2, hdr, rfl⟩ ih3
        have hhl := hole_len T n X
        have hnh := natI_len (hole T n X)
        have hI2 := ho2.ints
        have hva2 := (hva.ext hEN2).ints
        rw [← hps] at hva2
        obtain ⟨pa, pc, rfl⟩ := hva2.inv
        have y5 := ixI hva2 .i64 (k : Int) (by omega)
        have z5 := ldI hva2 (k : Int) (by omega)
        rw [gi_nat] at z5
        simp (disch := omega) only [go_sem, Nat.reduceEqDiff, Nat.reduceAdd, ↓reduceIte, get_pushB, get_putB, pickB_t, pickB_f, eqB_t, eqB_f, ltB_t, leB_t, AH.size_push, AH.size_put, AH.ro_push, AH.ro_put]
        refine SplitG.mk (fun g1 => ?_) (fun g1 => ?_)
        · obtain ⟨m, rfl⟩ : ∃ m, n = m + 1 := ⟨n - 1, by omega⟩
          have hmT : m < T.length := by omega
          have hq1 := hTk T[m] (List.getElem_mem hmT)
          have em : ((m + 1 : Nat) : Int) - 1 = (m : Int) := by omega
          have y4 := ixI hI2 .i64 (m : Int) (by omega)
          have z4 := ldI hI2 (m : Int) (by omega)
          unfold natI at z4
          rw [gi_map _ _ _ (hole_before T m X hmT)] at z4
          have y6 := ixI hva2 .i64 (T[m] : Int) (by omega)
          have z6 := ldI hva2 (T[m] : Int) (by omega)
          rw [gi_nat] at z6
          simp (disch := omega) only [go_sem, Nat.reduceEqDiff, Nat.reduceAdd, ↓reduceIte, get_pushB, get_putB, pickB_t, pickB_f, eqB_t, eqB_f, ltB_t, leB_t, AH.size_push, AH.size_put, AH.ro_push, AH.ro_put, em, y4, z4, y6, z6, y5, z5]
          refine Split.mk (fun g2 => ?_) (fun g2 => ?_)
          · obtain ⟨es, ho3, hbs, hbK⟩ := ho2.set ((m + 1 : Nat) : Int) (T[m] : Int) (by omega)
            have y7 := ixI hI2 .i64 ((m + 1 : Nat) : Int) (by omega)
            simp (disch := omega) only [go_sem, Nat.reduceEqDiff, Nat.reduceAdd, ↓reduceIte, get_pushB, get_putB, pickB_t, pickB_f, eqB_t, eqB_f, ltB_t, leB_t, AH.size_push, AH.size_put, AH.ro_push, AH.ro_put, em, y4, z4, y7, es]
            have hset : (natI (hole T (m + 1) X)).set ((m + 1 : Nat) : Int).toNat (T[m] : Int) = natI (hole T m T[m]) := by
              rw [Int.toNat_natCast]; unfold natI; rw [map_setN, hole_step _ _ _ hmT]
            rw [hset] at ho3 ⊢
            refine ih3 _ _ _ ?_ ⟨m, T[m], by omega, rfl, hEN2.put hbK hbs _, ho3, ?_, rfl⟩
            · omega
            · intro q hq
              rw [List.drop_eq_getElem_cons hmT] at hq
              rcases List.mem_cons.1 hq with rfl | hq
              · omega
              · exact hdr q hq
          · simp (disch := omega) only [go_sem, Nat.reduceEqDiff, Nat.reduceAdd, ↓reduceIte, get_pushB, get_putB, pickB_t, pickB_f, eqB_t, eqB_f, ltB_t, leB_t, AH.size_push, AH.size_put, AH.ro_push, AH.ro_put]
            have hfin : m + 1 = 0 ∨ ∃ q, T[m + 1 - 1]? = some q ∧ ps[q]! ≤ ps[k]! := by
              right
              exact ⟨T[m], by rw [Nat.add_sub_cancel, List.getElem?_eq_getElem hmT], by omega⟩
            obtain ⟨es, ho3, hbs, hbK⟩ := ho2.set ((m + 1 : Nat) : Int) (k : Int) (by omega)
            have y7 := ixI hI2 .i64 ((m + 1 : Nat) : Int) (by omega)
            simp (disch := omega) only [go_sem, Nat.reduceEqDiff, Nat.reduceAdd, ↓reduceIte, get_pushB, get_putB, pickB_t, pickB_f, eqB_t, eqB_f, ltB_t, leB_t, AH.size_push, AH.size_put, AH.ro_push, AH.ro_put, y7, es]
            have hset : (natI (hole T (m + 1) X)).set ((m + 1 : Nat) : Int).toNat (k : Int) = natI (hole T (m + 1) k) := by
              rw [Int.toNat_natCast]; unfold natI; rw [map_setN, hole_set _ _ _ _ (by omega)]
            rw [hset] at ho3 ⊢
            have hTk2 : ∀ q ∈ hole T (m + 1) k, q < k + 1 := fun q hq => by
              rcases List.mem_append.1 ((hole_perm T (m + 1) k).mem_iff.1 hq) with hq | hq
              · have := hTk q hq; omega
              · have := List.mem_singleton.1 hq; omega
            have hp2 : ((hole T (m + 1) k).map (spn l ps)).Perm (thereP l ps i (k + 1)) := by
              rw [thereP_yes _ _ _ _ (by omega)]
              refine ((hole_perm T (m + 1) k).map _).trans ?_
              rw [List.map_append]
              exact hTp.append_right _
            refine ih2 _ _ _ ?_ ⟨k + 1, _, _, hole T (m + 1) k, by omega, rfl, hEN2.put hbK hbs _, ho3, by rw [hole_len]; omega, hTk2, hp2, hole_asc _ T _ k (by omega) hTa hfin hdr, by simp only [Int.natCast_add]; rfl⟩
            omega
        · obtain rfl : n = 0 := by omega
          simp (disch := omega) only [go_sem, Nat.reduceEqDiff, Nat.reduceAdd, ↓reduceIte, get_pushB, get_putB, pickB_t, pickB_f, eqB_t, eqB_f, ltB_t, leB_t, AH.size_push, AH.size_put, AH.ro_push, AH.ro_put]
          have hfin : 0 = 0 ∨ ∃ q, T[0 - 1]? = some q ∧ ps[q]! ≤ ps[k]! := .inl rfl
          obtain ⟨es, ho3, hbs, hbK⟩ := ho2.set ((0 : Nat) : Int) (k : Int) (by omega)
          have y7 := ixI hI2 .i64 ((0 : Nat) : Int) (by omega)
          simp (disch := omega) only [go_sem, Nat.reduceEqDiff, Nat.reduceAdd, ↓reduceIte, get_pushB, get_putB, pickB_t, pickB_f, eqB_t, eqB_f, ltB_t, leB_t, AH.size_push, AH.size_put, AH.ro_push, AH.ro_put, y7, es]
          have hset : (natI (hole T (0) X)).set ((0 : Nat) : Int).toNat (k : Int) = natI (hole T (0) k) := by
            rw [Int.toNat_natCast]; unfold natI; rw [map_setN, hole_set _ _ _ _ (by omega)]
          rw [hset] at ho3 ⊢
          have hTk2 : ∀ q ∈ hole T (0) k, q < k + 1 := fun q hq => by
            rcases List.mem_append.1 ((hole_perm T (0) k).mem_iff.1 hq) with hq | hq
            · have := hTk q hq; omega
            · have := List.mem_singleton.1 hq; omega
          have hp2 : ((hole T (0) k).map (spn l ps)).Perm (thereP l ps i (k + 1)) := by
            rw [thereP_yes _ _ _ _ (by omega)]
            refine ((hole_perm T (0) k).map _).trans ?_
            rw [List.map_append]
            exact hTp.append_right _
          refine ih2 _ _ _ ?_ ⟨k + 1, _, _, hole T (0) k, by omega, rfl, hEN2.put hbK hbs _, ho3, by rw [hole_len]; omega, hTk2, hp2, hole_asc _ T _ k (by omega) hTa hfin hdr, by simp only [Int.natCast_add]; rfl⟩
          omega
    · obtain rfl : k = i := by omega
      simp (disch := omega) only [go_sem, Nat.reduceEqDiff, Nat.reduceAdd, ↓reduceIte, get_pushB, get_putB, pickB_t, pickB_f, eqB_t, eqB_f, ltB_t, leB_t, AH.size_push, AH.size_put, AH.ro_push, AH.ro_put]
      obtain ⟨ta, tc, rfl⟩ := hvt.ints.inv
      have hnl := natI_len T
      rw [hnl] at hvt ⊢
      have hLM := hK.ext hEM
      have hvaM := (hva.ext hEM)
      have hI := hvaM.ints
      rw [← hps] at hI
      obtain ⟨pa, pc, rfl⟩ := hI.inv
      have hTI := hvt.ints
      obtain ⟨S, hS⟩ : ∃ S, S = T.map (spn l ps) := ⟨_, rfl⟩
      have hSl : S.length = T.length := by rw [hS]; simp
      have hSB : ∀ x ∈ S, 0 ≤ x.1 ∧ x.1 ≤ 1000000000000 ∧ 0 ≤ x.2 ∧ x.2 ≤ 1000000000000 := by
        intro x hx
        rw [hS, List.mem_map] at hx
        obtain ⟨q, hq, rfl⟩ := hx
        have hqk := hTk q hq
        have h1 := hpb q hqk
        have h2 := okL_of hm (show q < l.length by omega)
        unfold spn
        simp only []
        omega
      obtain ⟨size, hsize⟩ : ∃ z, z = l[k]!.s := ⟨_, rfl⟩
      have y3 := ixL hLM .i64 (k : Int) (by omega)
      have f3 := (faL hLM (k : Int) (by omega)).2.2
      have z3 := (lfL hLM (k : Int) (by omega)).2.2
      simp only [Int.toNat_natCast] at z3
      rw [← hsize] at z3 oi
      refine Sat_loop 3000 (fun kk K V => ∃ (j : Nat) (x12 : Value), j ≤ S.length ∧ kk = S.length - j ∧ K = M ∧ V = [.slice a l.length c, .slice none 0 0, .slice pa ps.length pc, .int .i64 k, .slice ta T.length tc, .int .i64 k, y7, .int .i64 (gapL size (S.take j)).2.1, .int .i64 (gapL size (S.take j)).2.2, .int .i64 (gapL size (S.take j)).1, .int .i64 j, x12]) S.length ⟨0, _, by omega, rfl, rfl, rfl⟩ ?_
      rintro kk K' V ⟨j, x12', hj, rfl, rfl, rfl⟩ ih4
      obtain ⟨b1, b2, b3, b4, b5, b6⟩ := gap_bd size (by omega) (S.take j) (fun x hx => hSB x (List.mem_of_mem_take hx))
      have hst := gapL_step size S.toArray j
      simp only [List.size_toArray] at hst
      obtain ⟨st, hStt⟩ : ∃ st, st = gapL size (S.take j) := ⟨_, rfl⟩
      rw [← hStt] at b1 b2 b3 b4 b5 b6 hst ⊢
      obtain ⟨en, be, le⟩ := st
      simp only [] at b1 b2 b3 b4 b5 b6
      simp (disch := omega) only [go_sem, Nat.reduceEqDiff, Nat.reduceAdd, ↓reduceIte, get_pushB, get_putB, pickB_t, pickB_f, eqB_t, eqB_f, ltB_t, leB_t, AH.size_push, AH.size_put, AH.ro_push, AH.ro_put]
      refine Split.mk (fun g1 => ?_) (fun g1 => ?_)
      · have hjT : j < T.length := by omega
        have hst := hst (by omega)
        have hqk := hTk T[j] (List.getElem_mem hjT)
        have hb1 := hpb T[j] hqk
        have oq := okL_of hm (show T[j] < l.length by omega)
        have y4 := ixI hTI .i64 (j : Int) (by omega)
        have z4 := ldI hTI (j : Int) (by omega)
        unfold natI at z4
        rw [gi_map _ _ _ (List.getElem?_eq_getElem hjT)] at z4
        have y6 := ixI hI .i64 (T[j] : Int) (by omega)
        have z6 := ldI hI (T[j] : Int) (by omega)
        rw [gi_nat] at z6
        have y8 := ixL hLM .i64 (T[j] : Int) (by omega)
        have f8 := (faL hLM (T[j] : Int) (by omega)).2.2
        have z8 := (lfL hLM (T[j] : Int) (by omega)).2.2
        simp only [Int.toNat_natCast] at z8
        have eS : S.toArray[j]! = (ps[T[j]]!, ps[T[j]]! + l[T[j]]!.s) := by
          rw [hS]; simp [hjT, spn]
        rw [eS] at hst
        obtain ⟨q, hq⟩ : ∃ q, q = T[j] := ⟨_, rfl⟩
        rw [← hq] at hst hqk hb1 oq z4 y6 z6 y8 f8 z8
        simp (disch := omega) only [go_sem, Nat.reduceEqDiff, Nat.reduceAdd, ↓reduceIte, get_pushB, get_putB, pickB_t, pickB_f, eqB_t, eqB_f, ltB_t, leB_t, AH.size_push, AH.size_put, AH.ro_push, AH.ro_put, y4, z4, y6, z6, y3, f3, z3]
        refine SplitG.mk (fun g2 => ?_) (fun g2 => ?_)
        · simp (disch := omega) only [go_sem, Nat.reduceEqDiff, Nat.reduceAdd, ↓reduceIte, get_pushB, get_putB, pickB_t, pickB_f, eqB_t, eqB_f, ltB_t, leB_t, AH.size_push, AH.size_put, AH.ro_push, AH.ro_put]
          refine SplitG.mk (fun g3 => ?_) (fun g3 => ?_)
          · simp (disch := omega) only [go_sem, Nat.reduceEqDiff, Nat.reduceAdd, ↓reduceIte, get_pushB, get_putB, pickB_t, pickB_f, eqB_t, eqB_f, ltB_t, leB_t, AH.size_push, AH.size_put, AH.ro_push, AH.ro_put, y4, z4, y6, z6, y8, f8, z8]
            refine ih4 _ _ _ ?_ ⟨j + 1, _, by omega, rfl, rfl, by rw [hst, gapS, if_pos ⟨g2, Or.inl g3⟩]; simp only [Int.natCast_add]; rfl⟩
            omega
          · simp (disch := omega) only [go_sem, Nat.reduceEqDiff, Nat.reduceAdd, ↓reduceIte, get_pushB, get_putB, pickB_t, pickB_f, eqB_t, eqB_f, ltB_t, leB_t, AH.size_push, AH.size_put, AH.ro_push, AH.ro_put]
            refine Split.mk (fun g4 => ?_) (fun g4 => ?_)
            · simp (disch := omega) only [go_sem, Nat.reduceEqDiff, Nat.reduceAdd, ↓reduceIte, get_pushB, get_putB, pickB_t, pickB_f, eqB_t, eqB_f, ltB_t, leB_t, AH.size_push, AH.size_put, AH.ro_push, AH.ro_put, y4, z4, y6, z6, y8, f8, z8]
              refine ih4 _ _ _ ?_ ⟨j + 1, _, by omega, rfl, rfl, by rw [hst, gapS, if_pos ⟨g2, Or.inr g4⟩]; simp only [Int.natCast_add]; rfl⟩
              omega
            · simp (disch := omega) only [go_sem, Nat.reduceEqDiff, Nat.reduceAdd, ↓reduceIte, get_pushB, get_putB, pickB_t, pickB_f, eqB_t, eqB_f, ltB_t, leB_t, AH.size_push, AH.size_put, AH.ro_push, AH.ro_put, y4, z4, y6, z6, y8, f8, z8]
              refine ih4 _ _ _ ?_ ⟨j + 1, _, by omega, rfl, rfl, by rw [hst, gapS, if_neg (by simp only []; omega)]; simp only [Int.natCast_add]; rfl⟩
              omega
        · simp (disch := omega) only [go_sem, Nat.reduceEqDiff, Nat.reduceAdd, ↓reduceIte, get_pushB, get_putB, pickB_t, pickB_f, eqB_t, eqB_f, ltB_t, leB_t, AH.size_push, AH.size_put, AH.ro_push, AH.ro_put, y4, z4, y6, z6, y8, f8, z8]
          refine ih4 _ _ _ ?_ ⟨j + 1, _, by omega, rfl, rfl, by rw [hst, gapS, if_neg (by simp only []; omega)]; simp only [Int.natCast_add]; rfl⟩
          omega
      · obtain rfl : j = S.length := by omega
        rw [List.take_of_length_le (Nat.le_refl _)] at hStt
        have hfin : gapF size S = if be < 0 then en else be := by unfold gapF; rw [← hStt]
        have hSs : S = sortL (thereL l (placeL l k) k) := sorted_is hm k (by omega) S (by rw [hS, ← hps]; exact hTp) (by rw [hS]; exact hTa)
        have hnew : placeL l (k + 1) = ps ++ [gapF size S] := by rw [placeL, ← hSs, ← hps, ← hsize]
        have hvaH := hva.ext hEM
        rw [← hps] at hvaH
        have hEM2 := hE.trans hEM
        simp (disch := omega) only [go_sem, Nat.reduceEqDiff, Nat.reduceAdd, ↓reduceIte, get_pushB, get_putB, pickB_t, pickB_f, eqB_t, eqB_f, ltB_t, leB_t, AH.size_push, AH.size_put, AH.ro_push, AH.ro_put]
        refine Split.mk (fun g2 => ?_) (fun g2 => ?_)
        · rw [if_pos g2] at hfin
          have hEp := Ext.push K' [.int .i64 en]
          obtain ⟨v', N3, ea, ho, hE3⟩ := OwnI.app (hvaH.ext hEp) hr0 (hEM2.trans hEp) (x := .slice (some ⟨K'.size, 0, none⟩) 1 1) (m := [en]) rfl (afirst_block (by rw [AH.get_push, if_pos rfl]; rfl) rfl) (by simp [hpl]; omega)
          simp (disch := omega) only [go_sem, Nat.reduceEqDiff, Nat.reduceAdd, ↓reduceIte, get_pushB, get_putB, pickB_t, pickB_f, eqB_t, eqB_f, ltB_t, leB_t, AH.size_push, AH.size_put, AH.ro_push, AH.ro_put, bslice_1 stI (.int .i64 en) rfl, ea]
          refine ih _ _ _ ?_ ⟨k + 1, v', _, _, _, _, _, _, _, _, by omega, rfl, hE3, by rw [hnew, hfin]; exact ho, by simp only [Int.natCast_add]; rfl⟩
          omega
        · rw [if_neg g2] at hfin
          have hEp := Ext.push K' [.int .i64 be]
          obtain ⟨v', N3, ea, ho, hE3⟩ := OwnI.app (hvaH.ext hEp) hr0 (hEM2.trans hEp) (x := .slice (some ⟨K'.size, 0, none⟩) 1 1) (m := [be]) rfl (afirst_block (by rw [AH.get_push, if_pos rfl]; rfl) rfl) (by simp [hpl]; omega)
          simp (disch := omega) only [go_sem, Nat.reduceEqDiff, Nat.reduceAdd, ↓reduceIte, get_pushB, get_putB, pickB_t, pickB_f, eqB_t, eqB_f, ltB_t, leB_t, AH.size_push, AH.size_put, AH.ro_push, AH.ro_put, bslice_1 stI (.int .i64 be) rfl, ea]
          refine ih _ _ _ ?_ ⟨k + 1, v', _, _, _, _, _, _, _, _, by omega, rfl, hE3, by rw [hnew, hfin]; exact ho, by simp only [Int.natCast_add]; rfl⟩
          omega
  · obtain rfl : i = l.length := by omega
    simp (disch := omega) only [go_sem, Nat.reduceEqDiff, Nat.reduceAdd, ↓reduceIte, get_pushB, get_putB, pickB_t, pickB_f, eqB_t, eqB_f, ltB_t, leB_t, AH.size_push, AH.size_put, AH.ro_push, AH.ro_put]
    exact ⟨hva, hE⟩
end Go.Proofs.A
set_option linter.unusedVariables false
set_option maxRecDepth 8000
set_option maxHeartbeats 4000000
set_option linter.unusedSimpArgs false
namespace Go.Proofs.A
open Go Go.Ab
theorem RefHeight_ok (H : AH) (hr0 : H.ro ≤ H.size) (l : List Lf) (v : Value) (h : Lfs H v l) (hm : mayL l = true) : Runs tb 17 [v] H (fun r H' => r = .int .i64 (hgt l (placeL l l.length) l.length) ∧ Ext H H') := by
  obtain ⟨a, c, rfl⟩ := h.inv
  refine Runs_fn (fn := Try.f17) [.tmp 2] [0, 2, 3, 4, 5] [] 3000 (by kernel_rfl) rfl (by kernel_rfl) (by kernel_rfl) rfl ?_; simp only [pad, argAt]
  simp (disch := omega) only [go_sem, Nat.reduceEqDiff, Nat.reduceAdd, ↓reduceIte, get_pushB, get_putB, pickB_t, pickB_f, eqB_t, eqB_f, ltB_t, leB_t, AH.size_push, AH.size_put, AH.ro_push, AH.ro_put]
  refine callW_of (RefPlace_ok H hr0 l _ h hm) ?_
  rintro r G2 ⟨ho, hE2⟩
  have hL := h.ext hE2
  have hlen := mayL_len hm
  obtain ⟨pa, pc, rfl⟩ := ho.ints.inv
  have hpl := placeL_len l l.length
  have hI := ho.ints
  have hall : ∀ k, k < l.length → 0 ≤ (placeL l l.length)[k]! + l[k]!.s ∧ (placeL l l.length)[k]! + l[k]!.s ≤ 10000000 := fun k hk => by
    have := place_at l hm k hk
    have := okL_of hm hk
    omega
  obtain ⟨ps, hps⟩ : ∃ ps, ps = placeL l l.length := ⟨_, rfl⟩
  rw [← hps] at hpl hI hall ⊢
  simp (disch := omega) only [go_sem, Nat.reduceEqDiff, Nat.reduceAdd, ↓reduceIte, get_pushB, get_putB, pickB_t, pickB_f, eqB_t, eqB_f, ltB_t, leB_t, AH.size_push, AH.size_put, AH.ro_push, AH.ro_put]
  refine Sat_loop 3000 (fun k K V => ∃ (j : Nat), j ≤ l.length ∧ k = l.length - j ∧ K = G2 ∧ V = [.slice a l.length c, .int .i64 0, .slice pa ps.length pc, .int .i64 (hgt l ps j), .int .i64 j]) l.length ⟨0, by omega, rfl, rfl, rfl⟩ ?_
  rintro k K V ⟨j, hj, rfl, rfl, rfl⟩ ih
  obtain ⟨hb1, hb2⟩ := hgt_bd l ps j (fun q hq => hall q (by omega))
  simp (disch := omega) only [go_sem, Nat.reduceEqDiff, Nat.reduceAdd, ↓reduceIte, get_pushB, get_putB, pickB_t, pickB_f, eqB_t, eqB_f, ltB_t, leB_t, AH.size_push, AH.size_put, AH.ro_push, AH.ro_put]
  refine Split.mk (fun h2 => ?_) (fun h2 => ?_)
  · have hlt : j < l.length := by omega
    have hjb := hall j hlt
    have y1 := ixI hI .i64 (j : Int) (by omega)
    have z1 := ldI hI (j : Int) (by omega)
    rw [gi_nat] at z1
    have y2 := ixL hL .i64 (j : Int) (by omega)
    have f2 := (faL hL (j : Int) (by omega)).2.2
    have z2 := (lfL hL (j : Int) (by omega)).2.2
    simp only [Int.toNat_natCast] at z2
    simp (disch := omega) only [go_sem, Nat.reduceEqDiff, Nat.reduceAdd, ↓reduceIte, get_pushB, get_putB, pickB_t, pickB_f, eqB_t, eqB_f, ltB_t, leB_t, AH.size_push, AH.size_put, AH.ro_push, AH.ro_put, y1, z1, y2, f2, z2, amax2]
    refine ih _ _ _ ?_ ⟨j + 1, by omega, rfl, rfl, by simp only [Int.natCast_add, hgt]; rfl⟩
    omega
  · obtain rfl : j = l.length := by omega
    simp (disch := omega) only [go_sem, Nat.reduceEqDiff, Nat.reduceAdd, ↓reduceIte, get_pushB, get_putB, pickB_t, pickB_f, eqB_t, eqB_f, ltB_t, leB_t, AH.size_push, AH.size_put, AH.ro_push, AH.ro_put]
    exact hE2
theorem RefBound_ok (H : AH) (l : List Lf) (v : Value) (h : Lfs H v l) (hm : mayL l = true) : Runs tb 18 [v] H (fun r H' => r = .int .i64 (bmost l l.length) ∧ H' = H) := by
  obtain ⟨a, c, rfl⟩ := h.inv
  have hlen := mayL_len hm
  have hss : ∀ q, q < l.length → 0 ≤ l[q]!.s ∧ l[q]!.s ≤ 4096 := fun q hq => by have := okL_of hm hq; omega
  refine Runs_fn (fn := Try.f18) [.tmp 2] [0, 2, 3, 4, 5, 6] [] 3000 (by kernel_rfl) rfl (by kernel_rfl) (by kernel_rfl) rfl ?_; simp only [pad, argAt]
  simp (disch := omega) only [go_sem, Nat.reduceEqDiff, Nat.reduceAdd, ↓reduceIte, get_pushB, get_putB, pickB_t, pickB_f, eqB_t, eqB_f, ltB_t, leB_t, AH.size_push, AH.size_put, AH.ro_push, AH.ro_put]
  refine Sat_loop 3000 (fun k K V => ∃ (i : Nat) (x5 x6 : Value), i ≤ l.length ∧ k = l.length - i ∧ K = H ∧ V = [.slice a l.length c, .int .i64 0, .int .i64 (bmost l i), .int .i64 i, x5, x6]) l.length ⟨0, _, _, by omega, rfl, rfl, rfl⟩ ?_
  rintro k K V ⟨i, x5, x6, hi, rfl, rfl, rfl⟩ ih
  have hb1 := bmost_bd l i hss
  simp (disch := omega) only [go_sem, Nat.reduceEqDiff, Nat.reduceAdd, ↓reduceIte, get_pushB, get_putB, pickB_t, pickB_f, eqB_t, eqB_f, ltB_t, leB_t, AH.size_push, AH.size_put, AH.ro_push, AH.ro_put]
  refine Split.mk (fun h2 => ?_) (fun h2 => ?_)
  · have hlt : i < l.length := by omega
    have y1 := ixL h .i64 (i : Int) (by omega)
    have f1 := faL h (i : Int) (by omega)
    have z1 := (lfL h (i : Int) (by omega)).1
    simp only [Int.toNat_natCast] at z1
    simp (disch := omega) only [go_sem, Nat.reduceEqDiff, Nat.reduceAdd, ↓reduceIte, get_pushB, get_putB, pickB_t, pickB_f, eqB_t, eqB_f, ltB_t, leB_t, AH.size_push, AH.size_put, AH.ro_push, AH.ro_put]
    refine Sat_loop 3000 (fun kk K2 V => ∃ (q : Nat), q ≤ l.length ∧ kk = l.length - q ∧ K2 = K ∧ V = [.slice a l.length c, .int .i64 0, .int .i64 (bmost l i), .int .i64 i, .int .i64 (bsum l i q), .int .i64 q]) l.length ⟨0, by omega, rfl, rfl, rfl⟩ ?_
    rintro kk K2 V ⟨q, hq, rfl, rfl, rfl⟩ ih2
    have hb2 := bsum_bd l i q (fun r hr => hss r (by omega))
    simp (disch := omega) only [go_sem, Nat.reduceEqDiff, Nat.reduceAdd, ↓reduceIte, get_pushB, get_putB, pickB_t, pickB_f, eqB_t, eqB_f, ltB_t, leB_t, AH.size_push, AH.size_put, AH.ro_push, AH.ro_put]
    refine Split.mk (fun h3 => ?_) (fun h3 => ?_)
    · have hql : q < l.length := by omega
      have y2 := ixL h .i64 (q : Int) (by omega)
      have f2 := faL h (q : Int) (by omega)
      have z2 := lfL h (q : Int) (by omega)
      simp only [Int.toNat_natCast] at z2
      have hq2 := hss q hql
      simp (disch := omega) only [go_sem, Nat.reduceEqDiff, Nat.reduceAdd, ↓reduceIte, get_pushB, get_putB, pickB_t, pickB_f, eqB_t, eqB_f, ltB_t, leB_t, AH.size_push, AH.size_put, AH.ro_push, AH.ro_put, y1, f1.1, z1, y2, f2.1, z2.1]
      refine SplitG.mk (fun g1 => ?_) (fun g1 => ?_)
      · simp (disch := omega) only [go_sem, Nat.reduceEqDiff, Nat.reduceAdd, ↓reduceIte, get_pushB, get_putB, pickB_t, pickB_f, eqB_t, eqB_f, ltB_t, leB_t, AH.size_push, AH.size_put, AH.ro_push, AH.ro_put, y1, f1.1, z1, y2, f2.2.1, z2.2.1]
        refine Split.mk (fun g2 => ?_) (fun g2 => ?_)
        · simp (disch := omega) only [go_sem, Nat.reduceEqDiff, Nat.reduceAdd, ↓reduceIte, get_pushB, get_putB, pickB_t, pickB_f, eqB_t, eqB_f, ltB_t, leB_t, AH.size_push, AH.size_put, AH.ro_push, AH.ro_put, y2, f2.2.2, z2.2.2]
          refine ih2 _ _ _ ?_ ⟨q + 1, by omega, rfl, rfl, by rw [bsum, if_pos ⟨g1, g2⟩]; simp only [Int.natCast_add]; rfl⟩
          omega
        · simp (disch := omega) only [go_sem, Nat.reduceEqDiff, Nat.reduceAdd, ↓reduceIte, get_pushB, get_putB, pickB_t, pickB_f, eqB_t, eqB_f, ltB_t, leB_t, AH.size_push, AH.size_put, AH.ro_push, AH.ro_put]
          refine ih2 _ _ _ ?_ ⟨q + 1, by omega, rfl, rfl, by rw [bsum, if_neg (by omega), Int.add_zero]; simp only [Int.natCast_add]; rfl⟩
          omega
      · simp (disch := omega) only [go_sem, Nat.reduceEqDiff, Nat.reduceAdd, ↓reduceIte, get_pushB, get_putB, pickB_t, pickB_f, eqB_t, eqB_f, ltB_t, leB_t, AH.size_push, AH.size_put, AH.ro_push, AH.ro_put]
        refine ih2 _ _ _ ?_ ⟨q + 1, by omega, rfl, rfl, by rw [bsum, if_neg (by omega), Int.add_zero]; simp only [Int.natCast_add]; rfl⟩
        omega
    · obtain rfl : q = l.length := by omega
      simp (disch := omega) only [go_sem, Nat.reduceEqDiff, Nat.reduceAdd, ↓reduceIte, get_pushB, get_putB, pickB_t, pickB_f, eqB_t, eqB_f, ltB_t, leB_t, AH.size_push, AH.size_put, AH.ro_push, AH.ro_put, amax2]
      refine ih _ _ _ ?_ ⟨i + 1, _, _, by omega, rfl, rfl, by simp only [Int.natCast_add, bmost]; rfl⟩
      omega
  · obtain rfl : i = l.length := by omega
    simp (disch := omega) only [go_sem, Nat.reduceEqDiff, Nat.reduceAdd, ↓reduceIte, get_pushB, get_putB, pickB_t, pickB_f, eqB_t, eqB_f, ltB_t, leB_t, AH.size_push, AH.size_put, AH.ro_push, AH.ro_put]
theorem CopyLives_ok (H : AH) (h0 : H.ro ≤ H.size) (l : List Lf) (v : Value) (h : Lfs H v l) (hb : l.length ≤ 1000000000000) : Runs tb 12 [v] H (fun r H' => OwnL H H' r l ∧ Ext H H') := by
  have bd := h.bd
  obtain ⟨p, c, rfl⟩ := h.inv
  refine Runs_fn (fn := Try.f12) [.tmp 2] [0, 2, 3, 4] [] 3000 (by kernel_rfl) rfl (by kernel_rfl) (by kernel_rfl) rfl ?_; simp only [pad, argAt]
  simp (disch := omega) only [go_sem, Nat.reduceEqDiff, Nat.reduceAdd, ↓reduceIte, get_pushB, get_putB, pickB_t, pickB_f, eqB_t, eqB_f, ltB_t, leB_t, AH.size_push, AH.size_put, AH.ro_push, AH.ro_put]
  refine Sat_loop 3000 (fun k H' V => ∃ (i : Nat) (m : Value), i ≤ l.length ∧ k = l.length - i ∧ OwnL H H' m (l.take i) ∧ Ext H H' ∧ V = [.slice p l.length c, .slice none 0 0, m, .int .i64 i]) l.length ⟨0, _, by omega, by omega, OwnL.nil _ _, Ext.refl H, rfl⟩ ?_
  rintro k H' V ⟨i, m, hi, rfl, hm, hE, rfl⟩ ih
  have h' := h.ext hE
  simp (disch := omega) only [go_sem, Nat.reduceEqDiff, Nat.reduceAdd, ↓reduceIte, get_pushB, get_putB, pickB_t, pickB_f, eqB_t, eqB_f, ltB_t, leB_t, AH.size_push, AH.size_put, AH.ro_push, AH.ro_put]
  refine Split.mk (fun h1 => ?_) (fun h1 => ?_)
  · have hi' : i < l.length := by omega
    have y1 := ixL h' .i64 (i : Int) (by omega)
    have z1 := ldL h' (i : Int) (by omega)
    simp only [Int.toNat_natCast] at z1
    have el : l[i]! = l[i] := by rw [List.getElem!_eq_getElem?_getD, List.getElem?_eq_getElem hi']; rfl
    rw [el] at z1
    obtain ⟨x, hx⟩ : ∃ x, x = l[i] := ⟨_, rfl⟩
    rw [← hx] at z1
    have hEp := Ext.push H' (flL [x])
    obtain ⟨m', H2, e, ho, hE2⟩ := OwnL.app (hm.ext hEp) h0 (hE.trans hEp) (m := [x]) (x := .slice (some ⟨H'.size, 0, none⟩) 1 3) rfl (afirst_block (by rw [AH.get_push, if_pos rfl]) rfl) (by simp; omega)
    have e' : aappend tb 22 22 m (.slice (some ⟨H'.size, 0, none⟩) 1 3) (H'.push [.int .i64 x.f, .int .i64 x.t, .int .i64 x.s]) = some (m', H2) := e
    simp (disch := omega) only [go_sem, Nat.reduceEqDiff, Nat.reduceAdd, ↓reduceIte, get_pushB, get_putB, pickB_t, pickB_f, eqB_t, eqB_f, ltB_t, leB_t, AH.size_push, AH.size_put, AH.ro_push, AH.ro_put, y1, z1, lfv, bsL1, e']
    refine ih _ _ _ ?_ ⟨i+1, m', by omega, rfl, ?_, hE2, by simp only [Int.natCast_add]; rfl⟩
    · omega
    · rw [← List.take_append_getElem hi', ← hx]; exact ho
  · simp (disch := omega) only [go_sem, Nat.reduceEqDiff, Nat.reduceAdd, ↓reduceIte, get_pushB, get_putB, pickB_t, pickB_f, eqB_t, eqB_f, ltB_t, leB_t, AH.size_push, AH.size_put, AH.ro_push, AH.ro_put]
    rw [List.take_of_length_le (by omega)] at hm
    exact ⟨hm, hE⟩
end Go.Proofs.A
set_option linter.unusedVariables false
set_option maxRecDepth 8000
set_option maxHeartbeats 4000000
set_option linter.unusedSimpArgs false
namespace Go.Proofs.A
open Go Go.Ab
theorem aeqL (a b c d e f : Int) : aeq tb 60 27 (.agg #[.int .i64 a, .int .i64 b, .int .i64 c]) (.agg #[.int .i64 d, .int .i64 e, .int .i64 f]) = (match some (a == d) with | some true => (match some (b == e) with | some true => (match some (c == f) with | some true => some true | some false => some false | none => none) | some false => some false | none => none) | some false => some false | none => none) := by
  kernel_rfl
theorem neL (x y : Lf) : abin tb .neq 27 (lfv x) (lfv y) = some (.bool (!(decide (x = y)))) := by
  show (aeq tb 60 27 (lfv x) (lfv y)).map (fun b => Value.bool (!b)) = _
  unfold lfv
  rw [aeqL]
  obtain ⟨a, b, c⟩ := x
  obtain ⟨d, e, f⟩ := y
  cases h1 : (a == d)
  · have : a ≠ d := by simpa using h1
    simp [this]
  · obtain rfl : a = d := by simpa using h1
    cases h2 : (b == e)
    · have : b ≠ e := by simpa using h2
      simp [this]
    · obtain rfl : b = e := by simpa using h2
      cases h3 : (c == f)
      · have : c ≠ f := by simpa using h3
        simp [this]
      · obtain rfl : c = f := by simpa using h3
        simp
theorem EqLives_ok (H : AH) (a b : List Lf) (va vb : Value) (ha : Lfs H va a) (hb : Lfs H vb b) : Runs tb 20 [va, vb] H (fun r H' => r = .bool (decide (a = b)) ∧ H' = H) := by
  have bd := ha.bd
  obtain ⟨p, c, rfl⟩ := ha.inv
  obtain ⟨q, d, rfl⟩ := hb.inv
  refine Runs_fn (fn := Try.f20) [.tmp 4] [0, 1, 4, 5] [] 3000 (by kernel_rfl) rfl (by kernel_rfl) (by kernel_rfl) rfl ?_; simp only [pad, argAt]
  simp (disch := omega) only [go_sem, Nat.reduceEqDiff, Nat.reduceAdd, ↓reduceIte, get_pushB, get_putB, pickB_t, pickB_f, eqB_t, eqB_f, ltB_t, leB_t, AH.size_push, AH.size_put, AH.ro_push, AH.ro_put]
  refine Split.mk (fun hl => ?_) (fun hl => ?_)
  · simp (disch := omega) only [go_sem, Nat.reduceEqDiff, Nat.reduceAdd, ↓reduceIte, get_pushB, get_putB, pickB_t, pickB_f, eqB_t, eqB_f, ltB_t, leB_t, AH.size_push, AH.size_put, AH.ro_push, AH.ro_put]
    refine ⟨?_, trivial⟩
    congr 1; symm; rw [decide_eq_false_iff_not]; rintro rfl; exact hl rfl
  · simp (disch := omega) only [go_sem, Nat.reduceEqDiff, Nat.reduceAdd, ↓reduceIte, get_pushB, get_putB, pickB_t, pickB_f, eqB_t, eqB_f, ltB_t, leB_t, AH.size_push, AH.size_put, AH.ro_push, AH.ro_put]
    refine Sat_loop 3000 (fun k H' V => ∃ i : Nat, i ≤ a.length ∧ k = a.length - i ∧ (∀ j, j < i → a[j]? = b[j]?) ∧ V = [.slice p a.length c, .slice q b.length d, .bool false, .int .i64 i] ∧ H' = H) a.length ⟨0, by omega, by omega, by omega, rfl, rfl⟩ ?_
    rintro k H' V ⟨i, hi, rfl, hj, rfl, rfl⟩ ih
    simp (disch := omega) only [go_sem, Nat.reduceEqDiff, Nat.reduceAdd, ↓reduceIte, get_pushB, get_putB, pickB_t, pickB_f, eqB_t, eqB_f, ltB_t, leB_t, AH.size_push, AH.size_put, AH.ro_push, AH.ro_put]
    refine Split.mk (fun h1 => ?_) (fun h1 => ?_)
    · have y1 := ixL ha .i64 (i : Int) (by omega)
      have z1 := ldL ha (i : Int) (by omega)
      have y2 := ixL hb .i64 (i : Int) (by omega)
      have z2 := ldL hb (i : Int) (by omega)
      simp only [Int.toNat_natCast] at z1 z2
      have h3 : i < a.length := by omega
      have h4 : i < b.length := by omega
      have e1 : a[i]! = a[i] := by rw [List.getElem!_eq_getElem?_getD, List.getElem?_eq_getElem h3]; rfl
      have e2 : b[i]! = b[i] := by rw [List.getElem!_eq_getElem?_getD, List.getElem?_eq_getElem h4]; rfl
      rw [e1] at z1
      rw [e2] at z2
      simp (disch := omega) only [go_sem, Nat.reduceEqDiff, Nat.reduceAdd, ↓reduceIte, get_pushB, get_putB, pickB_t, pickB_f, eqB_t, eqB_f, ltB_t, leB_t, AH.size_push, AH.size_put, AH.ro_push, AH.ro_put, y1, z1, y2, z2, neL]
      refine Split.mk (fun he => ?_) (fun he => ?_)
      · simp (disch := omega) only [go_sem, Nat.reduceEqDiff, Nat.reduceAdd, ↓reduceIte, get_pushB, get_putB, pickB_t, pickB_f, eqB_t, eqB_f, ltB_t, leB_t, AH.size_push, AH.size_put, AH.ro_push, AH.ro_put]
        refine ⟨?_, trivial⟩
        congr 1; symm; rw [decide_eq_false_iff_not]; rintro rfl; exact he rfl
      · have he : a[i] = b[i] := Decidable.of_not_not he
        simp (disch := omega) only [go_sem, Nat.reduceEqDiff, Nat.reduceAdd, ↓reduceIte, get_pushB, get_putB, pickB_t, pickB_f, eqB_t, eqB_f, ltB_t, leB_t, AH.size_push, AH.size_put, AH.ro_push, AH.ro_put]
        refine ih _ _ _ ?_ ⟨i+1, by omega, rfl, ?_, by simp only [Int.natCast_add]; rfl, rfl⟩
        · omega
        · intro j hj'
          by_cases e : j < i
          · exact hj j e
          · obtain rfl : j = i := by omega
            rw [List.getElem?_eq_getElem h3, List.getElem?_eq_getElem h4, he]
    · simp (disch := omega) only [go_sem, Nat.reduceEqDiff, Nat.reduceAdd, ↓reduceIte, get_pushB, get_putB, pickB_t, pickB_f, eqB_t, eqB_f, ltB_t, leB_t, AH.size_push, AH.size_put, AH.ro_push, AH.ro_put]
      refine ⟨?_, trivial⟩
      congr 1; symm; rw [decide_eq_true_eq]
      apply List.ext_getElem?
      intro j
      by_cases e : j < i
      · exact hj j e
      · rw [List.getElem?_eq_none (by omega), List.getElem?_eq_none (by omega)]
theorem clashP_no {x y : Lf} {a b : Int} (h : ¬ (x.f < y.t ∧ y.f < x.t ∧ a < b + y.s ∧ b < a + x.s)) : clashP x y a b = false := decide_eq_false h
theorem RefApart_ok (H : AH) (l : List Lf) (v : Value) (h : Lfs H v l) (hm : mayL l = true) (ps : List Int) (vp : Value) (hp : Ints H vp ps) (hpl : ps.length = l.length) (hok : ps.all okAt = true) : Runs tb 24 [v, vp] H (fun r H' => r = .bool (apartP l ps) ∧ H' = H) := by
  obtain ⟨a, c, rfl⟩ := h.inv
  obtain ⟨pa, pc, rfl⟩ := hp.inv
  have hlen := mayL_len hm
  have hpb : ∀ q, q < l.length → 0 ≤ ps[q]! ∧ ps[q]! ≤ 1228800 := fun q hq => by
    have hq' : q < ps.length := by omega
    rw [List.all_eq_true] at hok
    have := hok ps[q]! (by rw [List.getElem!_eq_getElem?_getD, List.getElem?_eq_getElem hq']; exact List.getElem_mem hq')
    exact of_decide_eq_true this
  refine Runs_fn (fn := Try.f24) [.tmp 4] [0, 1, 4, 5, 6] [] 3000 (by kernel_rfl) rfl (by kernel_rfl) (by kernel_rfl) rfl ?_; simp only [pad, argAt]
  simp (disch := omega) only [go_sem, Nat.reduceEqDiff, Nat.reduceAdd, ↓reduceIte, get_pushB, get_putB, pickB_t, pickB_f, eqB_t, eqB_f, ltB_t, leB_t, AH.size_push, AH.size_put, AH.ro_push, AH.ro_put]
  refine Sat_loop 3000 (fun k K V => ∃ (i : Nat) (x6 : Value), i ≤ l.length ∧ k = l.length - i ∧ K = H ∧ (∀ j, j < i → ∀ k, k < j → clashP l[j]! l[k]! ps[j]! ps[k]! = false) ∧ V = [.slice a l.length c, .slice pa ps.length pc, .bool false, .int .i64 i, x6]) l.length ⟨0, _, by omega, rfl, rfl, fun j hj => absurd hj (by omega), rfl⟩ ?_
  rintro k K V ⟨i, x6, hi, rfl, rfl, hcl, rfl⟩ ih
  simp (disch := omega) only [go_sem, Nat.reduceEqDiff, Nat.reduceAdd, ↓reduceIte, get_pushB, get_putB, pickB_t, pickB_f, eqB_t, eqB_f, ltB_t, leB_t, AH.size_push, AH.size_put, AH.ro_push, AH.ro_put]
  refine Split.mk (fun h1 => ?_) (fun h1 => ?_)
  · have hlt : i < l.length := by omega
    have y1 := ixL h .i64 (i : Int) (by omega)
    have f1 := faL h (i : Int) (by omega)
    have z1 := lfL h (i : Int) (by omega)
    have y2 := ixI hp .i64 (i : Int) (by omega)
    have z2 := ldI hp (i : Int) (by omega)
    rw [gi_nat] at z2
    simp only [Int.toNat_natCast] at z1
    have o1 := okL_of hm hlt
    have b1 := hpb i hlt
    simp (disch := omega) only [go_sem, Nat.reduceEqDiff, Nat.reduceAdd, ↓reduceIte, get_pushB, get_putB, pickB_t, pickB_f, eqB_t, eqB_f, ltB_t, leB_t, AH.size_push, AH.size_put, AH.ro_push, AH.ro_put]
    refine Sat_loop 3000 (fun kk M V => ∃ (k : Nat), k ≤ i ∧ kk = i - k ∧ M = K ∧ (∀ q, q < k → clashP l[i]! l[q]! ps[i]! ps[q]! = false) ∧ V = [.slice a l.length c, .slice pa ps.length pc, .bool false, .int .i64 i, .int .i64 k]) i ⟨0, by omega, rfl, rfl, fun q hq => absurd hq (by omega), rfl⟩ ?_
    rintro kk M V ⟨k, hk, rfl, rfl, hcq, rfl⟩ ih2
    simp (disch := omega) only [go_sem, Nat.reduceEqDiff, Nat.reduceAdd, ↓reduceIte, get_pushB, get_putB, pickB_t, pickB_f, eqB_t, eqB_f, ltB_t, leB_t, AH.size_push, AH.size_put, AH.ro_push, AH.ro_put]
    refine Split.mk (fun h2 => ?_) (fun h2 => ?_)
    · have hki : k < i := by omega
      have y3 := ixL h .i64 (k : Int) (by omega)
      have f3 := faL h (k : Int) (by omega)
      have z3 := lfL h (k : Int) (by omega)
      have y4 := ixI hp .i64 (k : Int) (by omega)
      have z4 := ldI hp (k : Int) (by omega)
      rw [gi_nat] at z4
      simp only [Int.toNat_natCast] at z3
      have o3 := okL_of hm (show k < l.length by omega)
      have b3 := hpb k (by omega)
      have next : clashP l[i]! l[k]! ps[i]! ps[k]! = false → ∀ q, q < k + 1 → clashP l[i]! l[q]! ps[i]! ps[q]! = false := fun hc q hq => by
        rcases Nat.lt_or_ge q k with h | h
        · exact hcq q h
        · obtain rfl : q = k := by omega
          exact hc
      have hap : clashP l[i]! l[k]! ps[i]! ps[k]! = true → apartP l ps = false := fun hcp => by
        unfold apartP
        rw [List.all_eq_false]
        refine ⟨i, by simpa using hlt, ?_⟩
        rw [Bool.not_eq_true, List.all_eq_false]
        exact ⟨k, by simpa using hki, by rw [hcp]; simp⟩
      simp (disch := omega) only [go_sem, Nat.reduceEqDiff, Nat.reduceAdd, ↓reduceIte, get_pushB, get_putB, pickB_t, pickB_f, eqB_t, eqB_f, ltB_t, leB_t, AH.size_push, AH.size_put, AH.ro_push, AH.ro_put, y1, f1.1, z1.1, y3, f3.2.1, z3.2.1]
      refine SplitG.mk (fun g1 => ?_) (fun g1 => ?_)
      · simp (disch := omega) only [go_sem, Nat.reduceEqDiff, Nat.reduceAdd, ↓reduceIte, get_pushB, get_putB, pickB_t, pickB_f, eqB_t, eqB_f, ltB_t, leB_t, AH.size_push, AH.size_put, AH.ro_push, AH.ro_put, y3, f3.1, z3.1, y1, f1.2.1, z1.2.1]
        refine SplitG.mk (fun g2 => ?_) (fun g2 => ?_)
        · simp (disch := omega) only [go_sem, Nat.reduceEqDiff, Nat.reduceAdd, ↓reduceIte, get_pushB, get_putB, pickB_t, pickB_f, eqB_t, eqB_f, ltB_t, leB_t, AH.size_push, AH.size_put, AH.ro_push, AH.ro_put, y2, z2, y4, z4, y3, f3.2.2, z3.2.2]
          refine SplitG.mk (fun g3 => ?_) (fun g3 => ?_)
          · simp (disch := omega) only [go_sem, Nat.reduceEqDiff, Nat.reduceAdd, ↓reduceIte, get_pushB, get_putB, pickB_t, pickB_f, eqB_t, eqB_f, ltB_t, leB_t, AH.size_push, AH.size_put, AH.ro_push, AH.ro_put, y2, z2, y4, z4, y1, f1.2.2, z1.2.2]
            refine Split.mk (fun g4 => ?_) (fun g4 => ?_)
            · simp (disch := omega) only [go_sem, Nat.reduceEqDiff, Nat.reduceAdd, ↓reduceIte, get_pushB, get_putB, pickB_t, pickB_f, eqB_t, eqB_f, ltB_t, leB_t, AH.size_push, AH.size_put, AH.ro_push, AH.ro_put]
              rw [hap (decide_eq_true ⟨g1, g2, g3, g4⟩)]
              exact ⟨rfl, trivial⟩
            · simp (disch := omega) only [go_sem, Nat.reduceEqDiff, Nat.reduceAdd, ↓reduceIte, get_pushB, get_putB, pickB_t, pickB_f, eqB_t, eqB_f, ltB_t, leB_t, AH.size_push, AH.size_put, AH.ro_push, AH.ro_put]
              refine ih2 _ _ _ ?_ ⟨k + 1, by omega, rfl, rfl, next (clashP_no (by omega)), by simp only [Int.natCast_add]; rfl⟩
              omega
          · simp (disch := omega) only [go_sem, Nat.reduceEqDiff, Nat.reduceAdd, ↓reduceIte, get_pushB, get_putB, pickB_t, pickB_f, eqB_t, eqB_f, ltB_t, leB_t, AH.size_push, AH.size_put, AH.ro_push, AH.ro_put]
            refine ih2 _ _ _ ?_ ⟨k + 1, by omega, rfl, rfl, next (clashP_no (by omega)), by simp only [Int.natCast_add]; rfl⟩
            omega
        · simp (disch := omega) only [go_sem, Nat.reduceEqDiff, Nat.reduceAdd, ↓reduceIte, get_pushB, get_putB, pickB_t, pickB_f, eqB_t, eqB_f, ltB_t, leB_t, AH.size_push, AH.size_put, AH.ro_push, AH.ro_put]
          refine ih2 _ _ _ ?_ ⟨k + 1, by omega, rfl, rfl, next (clashP_no (by omega)), by simp only [Int.natCast_add]; rfl⟩
          omega
      · simp (disch := omega) only [go_sem, Nat.reduceEqDiff, Nat.reduceAdd, ↓reduceIte, get_pushB, get_putB, pickB_t, pickB_f, eqB_t, eqB_f, ltB_t, leB_t, AH.size_push, AH.size_put, AH.ro_push, AH.ro_put]
        refine ih2 _ _ _ ?_ ⟨k + 1, by omega, rfl, rfl, next (clashP_no (by omega)), by simp only [Int.natCast_add]; rfl⟩
        omega
    · obtain rfl : k = i := by omega
      simp (disch := omega) only [go_sem, Nat.reduceEqDiff, Nat.reduceAdd, ↓reduceIte, get_pushB, get_putB, pickB_t, pickB_f, eqB_t, eqB_f, ltB_t, leB_t, AH.size_push, AH.size_put, AH.ro_push, AH.ro_put]
      refine ih _ _ _ ?_ ⟨k + 1, _, by omega, rfl, rfl, ?_, by simp only [Int.natCast_add]; rfl⟩
      · omega
      · intro j hj q hq
        rcases Nat.lt_or_ge j k with h | h
        · exact hcl j h q hq
        · obtain rfl : j = k := by omega
          exact hcq q hq
  · obtain rfl : i = l.length := by omega
    simp (disch := omega) only [go_sem, Nat.reduceEqDiff, Nat.reduceAdd, ↓reduceIte, get_pushB, get_putB, pickB_t, pickB_f, eqB_t, eqB_f, ltB_t, leB_t, AH.size_push, AH.size_put, AH.ro_push, AH.ro_put]
    refine ⟨?_, trivial⟩
    have : apartP l ps = true := by
      unfold apartP
      rw [List.all_eq_true]
      intro j hj
      rw [List.all_eq_true]
      intro q hq
      rw [List.mem_range] at hj hq
      rw [hcl j hj q hq]; rfl
    rw [this]
end Go.Proofs.A
set_option linter.unusedVariables false
set_option maxRecDepth 8000
set_option maxHeartbeats 4000000
set_option linter.unusedSimpArgs false
namespace Go.Proofs.A
open Go Go.Ab
theorem Heavy2_ok (H : AH) (h0 : H.ro ≤ H.size) (p : Ask) (vl vp : Value) (h : AskV H vl vp p) : Runs tb 11 [.agg #[vl, vp]] H (fun r H' => (∃ b, r = .bool b ∧ (b = false → p.l.length ≤ 500 ∧ p.p.length ≤ 500)) ∧ Ext H H') := by
  obtain ⟨pl, cl, rfl⟩ := h.l.inv
  obtain ⟨pp, cp, rfl⟩ := h.p.inv
  have hE := Ext.push H [Value.slice pl p.l.length cl, Value.slice pp p.p.length cp]
  refine Runs_fn (fn := Try.f11) [.tmp 2] [0, 1, 2] [] 3000 (by kernel_rfl) rfl (by kernel_rfl) (by kernel_rfl) rfl ?_; simp only [pad, argAt]
  simp (disch := omega) only [go_sem, Nat.reduceEqDiff, Nat.reduceAdd, ↓reduceIte, get_pushB, get_putB, pickB_t, pickB_f, eqB_t, eqB_f, ltB_t, leB_t, AH.size_push, AH.size_put, AH.ro_push, AH.ro_put]
  refine SplitG.mk (fun h1 => ?_) (fun h1 => ?_)
  · simp (disch := omega) only [go_sem, Nat.reduceEqDiff, Nat.reduceAdd, ↓reduceIte, get_pushB, get_putB, pickB_t, pickB_f, eqB_t, eqB_f, ltB_t, leB_t, AH.size_push, AH.size_put, AH.ro_push, AH.ro_put]
    refine SplitG.mk (fun h2 => ?_) (fun h2 => ?_)
    · simp (disch := omega) only [go_sem, Nat.reduceEqDiff, Nat.reduceAdd, ↓reduceIte, get_pushB, get_putB, pickB_t, pickB_f, eqB_t, eqB_f, ltB_t, leB_t, AH.size_push, AH.size_put, AH.ro_push, AH.ro_put]
      exact ⟨⟨_, rfl, fun h => by cases h⟩, hE⟩
    · simp (disch := omega) only [go_sem, Nat.reduceEqDiff, Nat.reduceAdd, ↓reduceIte, get_pushB, get_putB, pickB_t, pickB_f, eqB_t, eqB_f, ltB_t, leB_t, AH.size_push, AH.size_put, AH.ro_push, AH.ro_put]
      refine SplitG.mk (fun h3 => ?_) (fun h3 => ?_)
      · simp (disch := omega) only [go_sem, Nat.reduceEqDiff, Nat.reduceAdd, ↓reduceIte, get_pushB, get_putB, pickB_t, pickB_f, eqB_t, eqB_f, ltB_t, leB_t, AH.size_push, AH.size_put, AH.ro_push, AH.ro_put]
        exact ⟨⟨_, rfl, fun h => by cases h⟩, hE⟩
      · simp (disch := omega) only [go_sem, Nat.reduceEqDiff, Nat.reduceAdd, ↓reduceIte, get_pushB, get_putB, pickB_t, pickB_f, eqB_t, eqB_f, ltB_t, leB_t, AH.size_push, AH.size_put, AH.ro_push, AH.ro_put]
        exact ⟨⟨_, rfl, fun h => by have := of_decide_eq_false h; omega⟩, hE⟩
  · simp (disch := omega) only [go_sem, Nat.reduceEqDiff, Nat.reduceAdd, ↓reduceIte, get_pushB, get_putB, pickB_t, pickB_f, eqB_t, eqB_f, ltB_t, leB_t, AH.size_push, AH.size_put, AH.ro_push, AH.ro_put]
    exact ⟨⟨_, rfl, fun h => by have := of_decide_eq_false h; omega⟩, hE⟩
theorem flL_set : ∀ (l : List Lf) (i : Nat) (x : Lf), i < l.length → flL (l.set i x) = (flL l).take (i * 3) ++ [.int .i64 x.f, .int .i64 x.t, .int .i64 x.s] ++ (flL l).drop (i * 3 + 3)
  | [], i, x, h => by simp at h
  | y :: ys, 0, x, h => by simp [flL]
  | y :: ys, i + 1, x, h => by
    have := flL_set ys i x (by simpa using h)
    rw [List.set_cons_succ, show (i + 1) * 3 = i * 3 + 3 by omega]
    simp only [flL, List.flatMap_cons] at this ⊢
    rw [this]
    simp [List.take_append, List.drop_append]
theorem OwnL.set {H0 H : AH} {b n c : Nat} {l : List Lf} (h : OwnL H0 H (.slice (some ⟨b, 0, none⟩) n c) l) (z : Int) (x : Lf) (hz : 0 ≤ z ∧ z < l.length) : astore tb 27 (elp (some ⟨b, 0, none⟩) c z 0) (lfv x) H = some (H.put b (some (flL (l.set z.toNat x)))) ∧ OwnL H0 (H.put b (some (flL (l.set z.toNat x)))) (.slice (some ⟨b, 0, none⟩) n c) (l.set z.toNat x) ∧ b < H.size ∧ H0.size ≤ b := by
  unfold OwnL at h
  generalize hN : l.length = N at h
  generalize hX : flL l = X at h
  cases h with
  | mk _ _ _ hb hro hr hg hl hn =>
    subst hN hX
    have hs := AH.lt_of_get hg
    have hzl : z.toNat < l.length := by omega
    refine ⟨?_, ?_, hs, hb⟩
    · have he : elp (some ⟨b, 0, none⟩) 3 z 0 = .pointer (some ⟨b, z.toNat * 3, none⟩) := by simp [elp]
      have hc : (lfv x).cells = #[.int .i64 x.f, .int .i64 x.t, .int .i64 x.s] := rfl
      rw [he, store_pt ty27 b (z.toNat * 3) (lfv x) H (by omega) rfl rfl, hg, hc]
      simp only [setO]
      rw [setl_eq _ _ _ (by rw [flL_len]; simp; omega)]
      simp only [putO]
      rw [flL_set l _ x hzl]
      rfl
    · unfold OwnL
      rw [List.length_set]
      refine .mk b _ _ hb hro hr ?_ (by rw [flL_len, List.length_set]) hn
      rw [AH.get_put _ _ _ _ hs, if_pos rfl]
/-- Lives one behind the other all lie at 0. -/
theorem seq_place (l : List Lf) (hs : ∀ i, i < l.length → ∀ k, k < i → l[k]!.t ≤ l[i]!.f) : ∀ i, i ≤ l.length → ∀ k, k < i → (placeL l i)[k]! = 0 := by
  intro i
  induction i with
  | zero => intro _ k hk; omega
  | succ i ih =>
    intro hi k hk
    have hlen := placeL_len l i
    have ht : thereL l (placeL l i) i = [] := by
      unfold thereL
      rw [List.map_eq_nil_iff, List.filter_eq_nil_iff]
      intro k hk
      rw [List.mem_range] at hk
      have := hs i (by omega) k hk
      simp only [decide_eq_true_eq]
      omega
    rw [placeL, ht, sortL_nil]
    rcases Nat.lt_or_ge k i with h | h
    · rw [bang_app _ _ _ (by omega)]; exact ih (by omega) k h
    · obtain rfl : k = i := by omega
      rw [bang_last _ _ _ hlen.symm]
      rfl
def manyL (i : Nat) : List Lf := (List.range 301).map fun (k : Nat) => if k < i then ⟨(k : Int), (k : Int) + 1, 1⟩ else ⟨0, 0, 0⟩
theorem manyL_len (i : Nat) : (manyL i).length = 301 := by simp [manyL]
theorem manyL_step (i : Nat) : (manyL i).set i ⟨(i : Int), (i : Int) + 1, 1⟩ = manyL (i + 1) := by
  apply List.ext_getElem
  · simp [manyL]
  · intro j h1 h2
    rw [List.getElem_set]
    simp only [manyL, List.getElem_map, List.getElem_range]
    by_cases e : i = j
    · subst e; simp
    · rw [if_neg e]
      by_cases h : j < i
      · rw [if_pos h, if_pos (by omega)]
      · rw [if_neg h, if_neg (by omega)]
def lateL : List Lf := (manyL 301).drop 1
theorem lateL_len : lateL.length = 300 := by simp [lateL, manyL_len]
theorem lateL_at (i : Nat) (h : i < 300) : lateL[i]! = ⟨(i : Int) + 1, (i : Int) + 2, 1⟩ := by
  rw [List.getElem!_eq_getElem?_getD]
  simp only [lateL, List.getElem?_drop, manyL]
  rw [List.getElem?_map, List.getElem?_range (by omega)]
  simp only [Option.map_some, Option.getD_some]
  rw [if_pos (by omega)]
  congr 1 <;> omega
theorem manyL_may : mayL (manyL 301) = false := by
  unfold mayL
  rw [decide_eq_false (by rw [manyL_len]; omega)]; rfl
theorem lateL_may : mayL lateL = true := by
  refine mayL_good _ (by rw [lateL_len]; omega) fun i hi => ?_
  rw [lateL_len] at hi
  unfold okL
  rw [lateL_at i hi, lateL_at (i - 1) (by omega)]
  exact decide_eq_true (by simp only []; omega)
theorem lateL_hgt : hgt lateL (placeL lateL 300) 300 = 1 := by
  have hp := seq_place lateL (fun i hi k hk => by
    rw [lateL_len] at hi
    rw [lateL_at i hi, lateL_at k (by omega)]
    simp only []; omega) 300 (by rw [lateL_len]; omega)
  have h1 := hgt_ge lateL (placeL lateL 300) 300 0 (by omega)
  have h2 := hgt_le lateL (placeL lateL 300) 1 (by omega) 300 (fun q hq => by rw [hp q hq, lateL_at q hq]; simp)
  rw [hp 0 (by omega), lateL_at 0 (by omega)] at h1
  simp only [] at h1
  omega
theorem many_make (H : AH) : amake tb 22 (.int .i64 301) (.int .i64 301) H.size = some (.slice (some ⟨H.size, 0, none⟩) 301 3, flL (manyL 0)) := by
  obtain ⟨zc, hz, e⟩ := amake_ok stL (z := 301) (by omega) (by omega) (H := H)
  rw [ty27] at hz
  cases hz
  rw [e]
  congr 1
end Go.Proofs.A
