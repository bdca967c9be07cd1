/- Places in dims. -/
import Derived.Test.YtcbmnjhdeklkmaaO4
set_option linter.unusedVariables false
set_option maxRecDepth 8000
set_option maxHeartbeats 4000000
set_option linter.unusedSimpArgs false
namespace Go.Proofs.K
open Go Go.Ab
def strP (d : List Int) : List Int := (List.range d.length).map fun i => prodL (d.drop (i + 1))
theorem strP_len (d : List Int) : (strP d).length = d.length := by simp [strP]
theorem Strides_ok (H : AH) (h0 : H.ro ≤ H.size) (d : List Int) (v : Value) (h : Ints H v d) (hm : mayP d = true) : Runs tb 120 [v] H (fun r H' => OwnI H H' r (strP d) ∧ Ext H H') := by
  obtain ⟨m1, m2, _, _⟩ := mayP_spec hm
  obtain ⟨pd, cd, rfl⟩ := h.inv
  have hE := Ext.push H ((List.replicate d.length (0 : Int)).map (.int .i64))
  have hoz : OwnI H (H.push ((List.replicate d.length (0 : Int)).map (.int .i64))) (.slice (some ⟨H.size, 0, none⟩) d.length 1) (List.replicate d.length 0) := by
    have := OwnI.fresh H h0 (List.replicate d.length (0 : Int)) (by simp; omega)
    simpa using this
  have mk := mkI H d.length (by omega) (by omega)
  simp only [Int.toNat_natCast] at mk
  refine Runs_fn (fn := Try.f120) [.tmp 2] [0, 2, 3, 4, 9, 10] [] 3000 (by kernel_rfl) rfl (by kernel_rfl) (by kernel_rfl) rfl ?_; simp only [pad, argAt]
  simp (disch := omega) only [go_sem, Nat.reduceEqDiff, Nat.reduceAdd, ↓reduceIte, get_pushB, get_putB, pickB_t, pickB_f, eqB_t, eqB_f, ltB_t, leB_t, AH.size_push, AH.size_put, AH.ro_push, AH.ro_put, mk]
  refine Sat_gen ?_
  intro G hG
  rw [← hG] at hoz hE
  have hsz : G.size = H.size + 1 := by rw [hG]; rfl
  have hr := hE.ro
  clear hG
  have hzl := strP_len d
  refine Sat_loop 3000 (fun k H' V => ∃ (i : Nat) (x2 x4 : Value), i ≤ d.length ∧ k = d.length - i ∧ Fr H.size G H' ∧ OwnI H H' (.slice (some ⟨H.size, 0, none⟩) d.length 1) ((strP d).take i ++ List.replicate (d.length - i) 0) ∧ V = [.slice pd d.length cd, x2, .slice (some ⟨H.size, 0, none⟩) d.length 1, x4, .int .i64 d.length, .int .i64 i]) d.length ⟨0, _, _, by omega, by omega, Fr.refl _ _, by simpa using hoz, rfl⟩ ?_
  rintro k H' V ⟨i, x2, x4, hi, rfl, hF, ho, rfl⟩ ih
  have hEF := hF.ext hE (by omega)
  have h' := Ints.mono hEF h
  simp (disch := omega) only [go_sem, Nat.reduceEqDiff, Nat.reduceAdd, ↓reduceIte, get_pushB, get_putB, pickB_t, pickB_f, eqB_t, eqB_f, ltB_t, leB_t, AH.size_push, AH.size_put, AH.ro_push, AH.ro_put]
  refine Split.mk (fun h1 => ?_) (fun h1 => ?_)
  · have hi2 : i < d.length := by omega
    obtain ⟨sa, sc, es, hs⟩ := Sl.sub h' ty23 rfl ty3 rfl (some (.int .i64 (i + 1))) none (i + 1) d.length (by simp [abound]) (by simp [abound]; omega)
    rw [List.take_of_length_le (by simp)] at hs
    simp (disch := omega) only [go_sem, Nat.reduceEqDiff, Nat.reduceAdd, ↓reduceIte, get_pushB, get_putB, pickB_t, pickB_f, eqB_t, eqB_f, ltB_t, leB_t, AH.size_push, AH.size_put, AH.ro_push, AH.ro_put, es]
    refine callW_of (Product_ok H' _ _ hs) ?_
    rintro r H2 ⟨rfl, rfl⟩
    have hlen : ((strP d).take i ++ List.replicate (d.length - i) (0 : Int)).length = d.length := by simp [hzl]; omega
    obtain ⟨hst, ho2, hb1, hb2⟩ := ho.set i (prodL (d.drop (i + 1))) (by omega)
    simp (disch := omega) only [go_sem, Nat.reduceEqDiff, Nat.reduceAdd, ↓reduceIte, get_pushB, get_putB, pickB_t, pickB_f, eqB_t, eqB_f, ltB_t, leB_t, AH.size_push, AH.size_put, AH.ro_push, AH.ro_put, ixI ho.ints, hst]
    refine ih _ _ _ ?_ ⟨i + 1, _, .int .i64 i, ?_, rfl, hF.trans (Fr.put _ _ hb1 _), ?_, rfl⟩
    · omega
    · omega
    · have := take_step (strP d) i (by omega)
      simp only [hzl] at this
      rw [← this]
      have e : (strP d)[i]'(by omega) = prodL (d.drop (i + 1)) := by simp [strP]
      rw [e]
      exact ho2
  · have hil : i = d.length := by omega
    subst hil
    simp (disch := omega) only [go_sem, Nat.reduceEqDiff, Nat.reduceAdd, ↓reduceIte, get_pushB, get_putB, pickB_t, pickB_f, eqB_t, eqB_f, ltB_t, leB_t, AH.size_push, AH.size_put, AH.ro_push, AH.ro_put]
    have ho3 : OwnI H H' (.slice (some ⟨H.size, 0, none⟩) d.length 1) (strP d) := by
      have := ho
      rw [List.take_of_length_le (by omega), Nat.sub_self] at this
      simpa using this
    exact ⟨ho3, hEF⟩
theorem strP_pos {d : List Int} (h : mayP d = true) (i : Nat) (hi : i < d.length) : 1 ≤ gi (strP d) i ∧ gi (strP d) i ≤ 64 := by
  have e : gi (strP d) i = prodL (d.drop (i + 1)) := by
    rw [gi_eq (by rw [strP_len]; exact hi)]
    simp [strP]
  rw [e]
  have p0 : prodL [] = 1 := rfl
  rcases mayP_cases h with ⟨a, rfl, ha⟩ | ⟨a, b, rfl, ha, hb⟩ | ⟨a, b, c, rfl, ha, hb, hc, hp⟩
  · match i, hi with
    | 0, _ => simp [p0]
  · match i, hi with
    | 0, _ => simp only [List.drop_succ_cons, List.drop_zero]; rw [prodL_1 _ hb]; omega
    | 1, _ => simp [p0]
  · match i, hi with
    | 0, _ =>
      simp only [List.drop_succ_cons, List.drop_zero]; rw [prodL_2 _ _ hb hc]
      have h1 := Int.mul_le_mul (a := 1) (b := 1) (c := b) (d := c) hb.1 hc.1 (by omega) (by omega)
      have h2 := (mul_bd (a := b) (b := c) (m := 8) (n := 8) (by omega) (by omega)).2
      omega
    | 1, _ => simp only [List.drop_succ_cons, List.drop_zero]; rw [prodL_1 _ hc]; omega
    | 2, _ => simp [p0]
def numStep (S : List Int) : Nat → List Int × Int → List Int × Int := fun i st => (st.1.set i (st.2 / gi S i), st.2 % gi S i)
def numI (d : List Int) (n : Int) (i : Nat) : List Int × Int := iter (numStep (strP d)) i (List.replicate d.length 0, n)
def numP (d : List Int) (n : Int) : List Int := (numI d n d.length).1
theorem numI_len (d : List Int) (n : Int) (i : Nat) : (numI d n i).1.length = d.length :=
  iter_inv (fun (x : List Int × Int) => x.1.length = d.length) _ (fun n x h => by simp [numStep, h]) i _ (by simp)
theorem numI_bd {d : List Int} (hm : mayP d = true) {n : Int} (hn : 0 ≤ n) : ∀ i, i ≤ d.length → 0 ≤ (numI d n i).2 ∧ (numI d n i).2 ≤ n
  | 0, _ => ⟨hn, Int.le_refl _⟩
  | i + 1, hi => by
    have ih := numI_bd hm hn i (by omega)
    have hs := strP_pos hm i (by omega)
    have e : (numI d n (i + 1)).2 = (numI d n i).2 % gi (strP d) i := rfl
    rw [e]
    have h1 := Int.emod_nonneg (numI d n i).2 (b := gi (strP d) i) (by omega)
    have h3 := Int.mul_ediv_add_emod (numI d n i).2 (gi (strP d) i)
    have h4 := Int.mul_nonneg (a := gi (strP d) i) (b := (numI d n i).2 / gi (strP d) i) (by omega) (Int.ediv_nonneg ih.1 (by omega))
    omega
theorem Numbers_ok (H : AH) (h0 : H.ro ≤ H.size) (d : List Int) (n : Int) (v : Value) (h : Ints H v d) (hm : mayP d = true) (hn : 0 ≤ n ∧ n ≤ 1000000) : Runs tb 118 [v, .int .i64 n] H (fun r H' => OwnI H H' r (numP d n) ∧ Ext H H') := by
  obtain ⟨m1, m2, _, _⟩ := mayP_spec hm
  obtain ⟨pd, cd, rfl⟩ := h.inv
  have hE := Ext.push H ((List.replicate d.length (0 : Int)).map (.int .i64))
  have hoz : OwnI H (H.push ((List.replicate d.length (0 : Int)).map (.int .i64))) (.slice (some ⟨H.size, 0, none⟩) d.length 1) (List.replicate d.length 0) := by
    have := OwnI.fresh H h0 (List.replicate d.length (0 : Int)) (by simp; omega)
    simpa using this
  have mk := mkI H d.length (by omega) (by omega)
  simp only [Int.toNat_natCast] at mk
  refine Runs_fn (fn := Try.f118) [.tmp 4] [0, 1, 4, 5, 6, 7, 12, 13, 14] [] 3000 (by kernel_rfl) rfl (by kernel_rfl) (by kernel_rfl) rfl ?_; simp only [pad, argAt]
  simp (disch := omega) only [go_sem, Nat.reduceEqDiff, Nat.reduceAdd, ↓reduceIte, get_pushB, get_putB, pickB_t, pickB_f, eqB_t, eqB_f, ltB_t, leB_t, AH.size_push, AH.size_put, AH.ro_push, AH.ro_put, mk]
  refine callW_gen ?_
  intro G hG
  rw [← hG] at hoz hE
  have hsz : G.size = H.size + 1 := by rw [hG]; rfl
  have hr := hE.ro
  clear hG
  refine callW_of (Strides_ok G (by omega) d _ (Ints.mono hE h) hm) ?_
  rintro r G1 ⟨hos, hE1⟩
  obtain ⟨ps, cs, rfl⟩ := hos.ints.inv
  have hsb := Own.blk hos
  have hr1 := hE1.ro
  have hs1 := hE1.size
  have hoz := hoz.ext hE1
  have hE := hE.trans hE1
  simp (disch := omega) only [go_sem, Nat.reduceEqDiff, Nat.reduceAdd, ↓reduceIte, get_pushB, get_putB, pickB_t, pickB_f, eqB_t, eqB_f, ltB_t, leB_t, AH.size_push, AH.size_put, AH.ro_push, AH.ro_put]
  refine Sat_loop 3000 (fun k H' V => ∃ (i : Nat) (x4 x6 x7 : Value), i ≤ d.length ∧ k = d.length - i ∧ Fr H.size G1 H' ∧ OwnI H H' (.slice (some ⟨H.size, 0, none⟩) d.length 1) (numI d n i).1 ∧ V = [.slice pd d.length cd, .int .i64 (numI d n i).2, x4, .slice (some ⟨H.size, 0, none⟩) d.length 1, x6, x7, .slice ps (strP d).length cs, .int .i64 (strP d).length, .int .i64 i]) d.length ⟨0, _, _, _, by omega, by omega, Fr.refl _ _, hoz, rfl⟩ ?_
  rintro k H' V ⟨i, x4, x6, x7, hi, rfl, hF, ho, rfl⟩ ih
  have hEF := hF.ext hE (by omega)
  have hos' : Ints H' (.slice ps (strP d).length cs) (strP d) := (show OwnI G H' _ (strP d) from Own.fr hos hF (fun a m k e => by have := (hsb a m k e).1; omega)).ints
  have hsl := strP_len d
  have hlen := numI_len d n i
  simp (disch := omega) only [go_sem, Nat.reduceEqDiff, Nat.reduceAdd, ↓reduceIte, get_pushB, get_putB, pickB_t, pickB_f, eqB_t, eqB_f, ltB_t, leB_t, AH.size_push, AH.size_put, AH.ro_push, AH.ro_put]
  refine Split.mk (fun h1 => ?_) (fun h1 => ?_)
  · have hi2 : i < d.length := by omega
    have hsp := strP_pos hm i hi2
    have hbn := numI_bd hm hn.1 i (by omega)
    have hq : IntKind.i64.wrap ((numI d n i).2.tdiv (gi (strP d) i)) = (numI d n i).2 / gi (strP d) i := IntWalk.i64_quo _ _ ⟨by omega, by omega, by omega⟩
    have hm2 : (numI d n i).2.tmod (gi (strP d) i) = (numI d n i).2 % gi (strP d) i := by rw [Int.tmod_eq_emod_of_nonneg (by omega)]
    obtain ⟨hst, ho2, hb1, hb2⟩ := ho.set i ((numI d n i).2 / gi (strP d) i) (by omega)
    simp (disch := omega) only [go_sem, Nat.reduceEqDiff, Nat.reduceAdd, ↓reduceIte, get_pushB, get_putB, pickB_t, pickB_f, eqB_t, eqB_f, ltB_t, leB_t, AH.size_push, AH.size_put, AH.ro_push, AH.ro_put, ixI hos', ldI hos', hq, hm2, ixI ho.ints, hst]
    refine ⟨by omega, by omega, ?_⟩
    refine ih _ _ _ ?_ ⟨i + 1, _, .int .i64 i, _, ?_, rfl, hF.trans (Fr.put _ _ hb1 _), ho2, rfl⟩
    · omega
    · omega
  · have hil : i = d.length := by omega
    subst hil
    simp (disch := omega) only [go_sem, Nat.reduceEqDiff, Nat.reduceAdd, ↓reduceIte, get_pushB, get_putB, pickB_t, pickB_f, eqB_t, eqB_f, ltB_t, leB_t, AH.size_push, AH.size_put, AH.ro_push, AH.ro_put]
    exact ⟨ho, hEF⟩
def placeP (d p : List Int) : Int := iter (fun i n => IntKind.i64.wrap (n + IntKind.i64.wrap (gi (strP d) i * gi p i))) d.length 0
theorem Place_ok (H : AH) (h0 : H.ro ≤ H.size) (d p : List Int) (v u : Value) (h : Ints H v d) (hp : Ints H u p) (hl : p.length = d.length) (hm : mayP d = true) : Runs tb 119 [v, u] H (fun r H' => r = .int .i64 (placeP d p) ∧ Ext H H') := by
  obtain ⟨m1, m2, _, _⟩ := mayP_spec hm
  obtain ⟨pd, cd, rfl⟩ := h.inv
  obtain ⟨pp, cp, rfl⟩ := hp.inv
  refine Runs_fn (fn := Try.f119) [.tmp 4] [0, 1, 4, 5, 6, 7, 9, 10, 11] [] 3000 (by kernel_rfl) rfl (by kernel_rfl) (by kernel_rfl) rfl ?_; simp only [pad, argAt]
  simp (disch := omega) only [go_sem, Nat.reduceEqDiff, Nat.reduceAdd, ↓reduceIte, get_pushB, get_putB, pickB_t, pickB_f, eqB_t, eqB_f, ltB_t, leB_t, AH.size_push, AH.size_put, AH.ro_push, AH.ro_put]
  refine callW_of (Strides_ok H h0 d _ h hm) ?_
  rintro r G1 ⟨hos, hE1⟩
  obtain ⟨ps, cs, rfl⟩ := hos.ints.inv
  have hos : Ints G1 (.slice ps (strP d).length cs) (strP d) := hos.ints
  have hp1 := Ints.mono hE1 hp
  have hsl := strP_len d
  simp (disch := omega) only [go_sem, Nat.reduceEqDiff, Nat.reduceAdd, ↓reduceIte, get_pushB, get_putB, pickB_t, pickB_f, eqB_t, eqB_f, ltB_t, leB_t, AH.size_push, AH.size_put, AH.ro_push, AH.ro_put]
  refine Sat_loop 3000 (fun k H' V => ∃ (i : Nat) (x4 x6 x7 : Value), i ≤ d.length ∧ k = d.length - i ∧ H' = G1 ∧ V = [.slice pd d.length cd, .slice pp p.length cp, x4, .int .i64 (iter (fun i n => IntKind.i64.wrap (n + IntKind.i64.wrap (gi (strP d) i * gi p i))) i 0), x6, x7, .slice ps (strP d).length cs, .int .i64 (strP d).length, .int .i64 i]) d.length ⟨0, _, _, _, by omega, by omega, rfl, rfl⟩ ?_
  rintro k H' V ⟨i, x4, x6, x7, hi, rfl, rfl, rfl⟩ ih
  simp (disch := omega) only [go_sem, Nat.reduceEqDiff, Nat.reduceAdd, ↓reduceIte, get_pushB, get_putB, pickB_t, pickB_f, eqB_t, eqB_f, ltB_t, leB_t, AH.size_push, AH.size_put, AH.ro_push, AH.ro_put]
  refine Split.mk (fun h1 => ?_) (fun h1 => ?_)
  · have hi2 : i < d.length := by omega
    simp (disch := omega) only [go_sem, Nat.reduceEqDiff, Nat.reduceAdd, ↓reduceIte, get_pushB, get_putB, pickB_t, pickB_f, eqB_t, eqB_f, ltB_t, leB_t, AH.size_push, AH.size_put, AH.ro_push, AH.ro_put, ixI hos, ldI hos, ixI hp1, ldI hp1]
    refine ih _ _ _ ?_ ⟨i + 1, _, .int .i64 i, _, ?_, rfl, rfl, rfl⟩
    · omega
    · omega
  · have hil : i = d.length := by omega
    subst hil
    simp (disch := omega) only [go_sem, Nat.reduceEqDiff, Nat.reduceAdd, ↓reduceIte, get_pushB, get_putB, pickB_t, pickB_f, eqB_t, eqB_f, ltB_t, leB_t, AH.size_push, AH.size_put, AH.ro_push, AH.ro_put]
    exact ⟨rfl, hE1⟩
def zeroP (less p : List Int) (n : Nat) : List Int := iter (fun i p => if gi less i = 1 then p.set i 0 else p) n p
theorem zeroP_len (less p : List Int) (n : Nat) : (zeroP less p n).length = p.length :=
  iter_inv (fun (x : List Int) => x.length = p.length) _ (fun n x h => by show (if _ then _ else _ : List Int).length = _; split <;> simp [h]) n p rfl
def lowP (less great : List Int) (n : Int) : Int := placeP less (zeroP less (numP great n) less.length)
theorem low_ok (H : AH) (h0 : H.ro ≤ H.size) (a b : List Int) (n : Int) (v u : Value) (h : Ints H v a) (hu : Ints H u b) (hl : a.length = b.length) (ha : mayP a = true) (hb : mayP b = true) (hn : 0 ≤ n ∧ n ≤ 1000000) : Runs tb 109 [v, u, .int .i64 n] H (fun r H' => r = .int .i64 (lowP a b n) ∧ Ext H H') := by
  obtain ⟨m1, m2, _, _⟩ := mayP_spec ha
  obtain ⟨pd, cd, rfl⟩ := h.inv
  obtain ⟨pp, cp, rfl⟩ := hu.inv
  refine Runs_fn (fn := Try.f109) [.tmp 6] [0, 1, 2, 6, 7, 8, 9, 13, 14, 15] [] 3000 (by kernel_rfl) rfl (by kernel_rfl) (by kernel_rfl) rfl ?_; simp only [pad, argAt]
  simp (disch := omega) only [go_sem, Nat.reduceEqDiff, Nat.reduceAdd, ↓reduceIte, get_pushB, get_putB, pickB_t, pickB_f, eqB_t, eqB_f, ltB_t, leB_t, AH.size_push, AH.size_put, AH.ro_push, AH.ro_put]
  refine callW_of (Numbers_ok H h0 b n _ hu hb hn) ?_
  rintro r G1 ⟨hon, hE1⟩
  have hnl : (numP b n).length = b.length := numI_len b n _
  obtain ⟨nx, rfl⟩ := hon.block (by intro h; rw [h] at hnl; simp at hnl; omega)
  have h1' := Ints.mono hE1 h
  have hb1 := Own.blk hon _ _ _ rfl
  simp only at hb1
  simp (disch := omega) only [go_sem, Nat.reduceEqDiff, Nat.reduceAdd, ↓reduceIte, get_pushB, get_putB, pickB_t, pickB_f, eqB_t, eqB_f, ltB_t, leB_t, AH.size_push, AH.size_put, AH.ro_push, AH.ro_put]
  refine Sat_loop 3000 (fun k H' V => ∃ (i : Nat) (x6 x8 x9 : Value), i ≤ a.length ∧ k = a.length - i ∧ Fr nx G1 H' ∧ OwnI H H' (.slice (some ⟨nx, 0, none⟩) (numP b n).length 1) (zeroP a (numP b n) i) ∧ V = [.slice pd a.length cd, .slice pp b.length cp, .int .i64 n, x6, .slice (some ⟨nx, 0, none⟩) (numP b n).length 1, x8, x9, .slice pd a.length cd, .int .i64 a.length, .int .i64 i]) a.length ⟨0, _, _, _, by omega, by omega, Fr.refl _ _, hon, rfl⟩ ?_
  rintro k H' V ⟨i, x6, x8, x9, hi, rfl, hF, ho, rfl⟩ ih
  have hEF := hF.ext hE1 (by omega)
  have h' := Ints.mono hEF h
  have hzl := zeroP_len a (numP b n) i
  simp (disch := omega) only [go_sem, Nat.reduceEqDiff, Nat.reduceAdd, ↓reduceIte, get_pushB, get_putB, pickB_t, pickB_f, eqB_t, eqB_f, ltB_t, leB_t, AH.size_push, AH.size_put, AH.ro_push, AH.ro_put]
  refine Split.mk (fun h1 => ?_) (fun h1 => ?_)
  · have hi2 : i < a.length := by omega
    simp (disch := omega) only [go_sem, Nat.reduceEqDiff, Nat.reduceAdd, ↓reduceIte, get_pushB, get_putB, pickB_t, pickB_f, eqB_t, eqB_f, ltB_t, leB_t, AH.size_push, AH.size_put, AH.ro_push, AH.ro_put, ixI h', ldI h']
    refine Split.mk (fun h2 => ?_) (fun h2 => ?_)
    · obtain ⟨hst, ho2, hb1, hb2⟩ := ho.set i 0 (by omega)
      simp (disch := omega) only [go_sem, Nat.reduceEqDiff, Nat.reduceAdd, ↓reduceIte, get_pushB, get_putB, pickB_t, pickB_f, eqB_t, eqB_f, ltB_t, leB_t, AH.size_push, AH.size_put, AH.ro_push, AH.ro_put, ixI ho.ints, hst]
      refine ih _ _ _ ?_ ⟨i + 1, _, .int .i64 i, _, ?_, rfl, hF.trans (Fr.put _ _ hb1 _), ?_, rfl⟩
      · omega
      · omega
      · have e : zeroP a (numP b n) (i + 1) = (zeroP a (numP b n) i).set i 0 := by
          show (if gi a i = 1 then _ else _) = _
          rw [if_pos h2]; rfl
        rw [e]; exact ho2
    · simp (disch := omega) only [go_sem, Nat.reduceEqDiff, Nat.reduceAdd, ↓reduceIte, get_pushB, get_putB, pickB_t, pickB_f, eqB_t, eqB_f, ltB_t, leB_t, AH.size_push, AH.size_put, AH.ro_push, AH.ro_put]
      refine ih _ _ _ ?_ ⟨i + 1, _, .int .i64 i, _, ?_, rfl, hF, ?_, rfl⟩
      · omega
      · omega
      · have e : zeroP a (numP b n) (i + 1) = zeroP a (numP b n) i := by
          show (if gi a i = 1 then _ else _) = _
          rw [if_neg h2]; rfl
        rw [e]; exact ho
  · have hil : i = a.length := by omega
    subst hil
    simp (disch := omega) only [go_sem, Nat.reduceEqDiff, Nat.reduceAdd, ↓reduceIte, get_pushB, get_putB, pickB_t, pickB_f, eqB_t, eqB_f, ltB_t, leB_t, AH.size_push, AH.size_put, AH.ro_push, AH.ro_put]
    have hi3 : Ints H' (.slice (some ⟨nx, 0, none⟩) (numP b n).length 1) (zeroP a (numP b n) a.length) := ho.ints
    have hr := hEF.ro
    have hs := hEF.size
    refine callW_of (Place_ok H' (by omega) a _ _ _ h' hi3 (by omega) ha) ?_
    rintro r H2 ⟨rfl, hE2⟩
    simp (disch := omega) only [go_sem, Nat.reduceEqDiff, Nat.reduceAdd, ↓reduceIte, get_pushB, get_putB, pickB_t, pickB_f, eqB_t, eqB_f, ltB_t, leB_t, AH.size_push, AH.size_put, AH.ro_push, AH.ro_put]
    exact ⟨rfl, hEF.trans hE2⟩
def whereStep (d : List Int) : Nat → List Int × Int → List Int × Int := fun j st => (st.1.set (d.length - 1 - j) (st.2 % gi d (d.length - 1 - j : Nat)), st.2 / gi d (d.length - 1 - j : Nat))
def whereI (d : List Int) (n : Int) (i : Nat) : List Int × Int := iter (whereStep d) i (List.replicate d.length 0, n)
def whereP (d : List Int) (n : Int) : List Int := (whereI d n d.length).1
theorem whereI_len (d : List Int) (n : Int) (i : Nat) : (whereI d n i).1.length = d.length :=
  iter_inv (fun (x : List Int × Int) => x.1.length = d.length) _ (fun n x h => by simp [whereStep, h]) i _ (by simp)
theorem whereI_bd {d : List Int} (hm : mayP d = true) {n : Int} (hn : 0 ≤ n) : ∀ i, i ≤ d.length → 0 ≤ (whereI d n i).2 ∧ (whereI d n i).2 ≤ n
  | 0, _ => ⟨hn, Int.le_refl _⟩
  | i + 1, hi => by
    have ih := whereI_bd hm hn i (by omega)
    have hs := mayP_gi hm (d.length - 1 - i : Nat) (by omega)
    have e : (whereI d n (i + 1)).2 = (whereI d n i).2 / gi d (d.length - 1 - i : Nat) := rfl
    rw [e]
    have h1 := Int.ediv_nonneg (a := (whereI d n i).2) (b := gi d (d.length - 1 - i : Nat)) ih.1 (by omega)
    have h2 := Int.ediv_le_self (gi d (d.length - 1 - i : Nat)) ih.1
    omega
theorem Where_ok (H : AH) (h0 : H.ro ≤ H.size) (d : List Int) (n : Int) (v : Value) (h : Ints H v d) (hm : mayP d = true) (hn : 0 ≤ n ∧ n ≤ 1000000) : Runs tb 113 [v, .int .i64 n] H (fun r H' => OwnI H H' r (whereP d n) ∧ Ext H H') := by
  obtain ⟨m1, m2, _, _⟩ := mayP_spec hm
  obtain ⟨pd, cd, rfl⟩ := h.inv
  have hE := Ext.push H ((List.replicate d.length (0 : Int)).map (.int .i64))
  have hoz : OwnI H (H.push ((List.replicate d.length (0 : Int)).map (.int .i64))) (.slice (some ⟨H.size, 0, none⟩) d.length 1) (List.replicate d.length 0) := by
    have := OwnI.fresh H h0 (List.replicate d.length (0 : Int)) (by simp; omega)
    simpa using this
  have mk := mkI H d.length (by omega) (by omega)
  simp only [Int.toNat_natCast] at mk
  refine Runs_fn (fn := Try.f113) [.tmp 4] [0, 1, 4, 5, 6] [] 3000 (by kernel_rfl) rfl (by kernel_rfl) (by kernel_rfl) rfl ?_; simp only [pad, argAt]
  simp (disch := omega) only [go_sem, Nat.reduceEqDiff, Nat.reduceAdd, ↓reduceIte, get_pushB, get_putB, pickB_t, pickB_f, eqB_t, eqB_f, ltB_t, leB_t, AH.size_push, AH.size_put, AH.ro_push, AH.ro_put, mk]
  refine Sat_gen ?_
  intro G hG
  rw [← hG] at hoz hE
  have hsz : G.size = H.size + 1 := by rw [hG]; rfl
  have hr := hE.ro
  clear hG
  refine Sat_loop 3000 (fun k H' V => ∃ (i : Nat) (x4 : Value) (q : Int), i ≤ d.length ∧ k = d.length - i ∧ q = (d.length : Int) - 1 - i ∧ Fr H.size G H' ∧ OwnI H H' (.slice (some ⟨H.size, 0, none⟩) d.length 1) (whereI d n i).1 ∧ V = [.slice pd d.length cd, .int .i64 (whereI d n i).2, x4, .slice (some ⟨H.size, 0, none⟩) d.length 1, .int .i64 q]) d.length ⟨0, _, (d.length : Int) - 1, by omega, by omega, by simp, Fr.refl _ _, hoz, rfl⟩ ?_
  rintro k H' V ⟨i, x4, q, hi, rfl, hq, hF, ho, rfl⟩ ih
  have hEF := hF.ext hE (by omega)
  have h' := Ints.mono hEF h
  have hlen := whereI_len d n i
  simp (disch := omega) only [go_sem, Nat.reduceEqDiff, Nat.reduceAdd, ↓reduceIte, get_pushB, get_putB, pickB_t, pickB_f, eqB_t, eqB_f, ltB_t, leB_t, AH.size_push, AH.size_put, AH.ro_push, AH.ro_put]
  refine Split.mk (fun h1 => ?_) (fun h1 => ?_)
  · have hi2 : i < d.length := by omega
    have hqn : q = (d.length - 1 - i : Nat) := by omega
    have hsp := mayP_gi hm q (by omega)
    have hbn := whereI_bd hm hn.1 i (by omega)
    have hq2 : IntKind.i64.wrap ((whereI d n i).2.tdiv (gi d q)) = (whereI d n i).2 / gi d q := IntWalk.i64_quo _ _ ⟨by omega, by omega, by omega⟩
    have hm2 : (whereI d n i).2.tmod (gi d q) = (whereI d n i).2 % gi d q := by rw [Int.tmod_eq_emod_of_nonneg (by omega)]
    obtain ⟨hst, ho2, hb1, hb2⟩ := ho.set q ((whereI d n i).2 % gi d q) (by omega)
    have h2 := Ints.mono (hF.trans (Fr.put _ _ hb1 (some (List.map (Value.int .i64) ((whereI d n i).1.set q.toNat ((whereI d n i).2 % gi d q))))) |>.ext hE (by omega)) h
    simp (disch := omega) only [go_sem, Nat.reduceEqDiff, Nat.reduceAdd, ↓reduceIte, get_pushB, get_putB, pickB_t, pickB_f, eqB_t, eqB_f, ltB_t, leB_t, AH.size_push, AH.size_put, AH.ro_push, AH.ro_put, ixI h', ldI h', hq2, hm2, ixI ho.ints, hst, ixI h2, ldI h2]
    refine ⟨by omega, by omega, ?_⟩
    refine ih _ _ _ ?_ ⟨i + 1, x4, q - 1, ?_, rfl, ?_, hF.trans (Fr.put _ _ hb1 _), ?_, ?_⟩
    · omega
    · omega
    · omega
    · rw [hqn, Int.toNat_natCast] at ho2 ⊢
      exact ho2
    · rw [hqn]; rfl
  · have hil : i = d.length := by omega
    subst hil
    simp (disch := omega) only [go_sem, Nat.reduceEqDiff, Nat.reduceAdd, ↓reduceIte, get_pushB, get_putB, pickB_t, pickB_f, eqB_t, eqB_f, ltB_t, leB_t, AH.size_push, AH.size_put, AH.ro_push, AH.ro_put]
    exact ⟨ho, hEF⟩
theorem RefNarrow_ok (H : AH) (h0 : H.ro ≤ H.size) (a p : List Int) (v u : Value) (h : Ints H v a) (hu : Ints H u p) (hl : a.length = p.length) (hb : 1 ≤ p.length ∧ p.length ≤ 3) : Runs tb 112 [v, u] H (fun r H' => OwnI H H' r (zeroP a p p.length) ∧ Ext H H') := by
  obtain ⟨pd, cd, rfl⟩ := h.inv
  obtain ⟨pp, cp, rfl⟩ := hu.inv
  refine Runs_fn (fn := Try.f112) [.tmp 4] [0, 1, 4, 5, 6] [] 3000 (by kernel_rfl) rfl (by kernel_rfl) (by kernel_rfl) rfl ?_; simp only [pad, argAt]
  simp (disch := omega) only [go_sem, Nat.reduceEqDiff, Nat.reduceAdd, ↓reduceIte, get_pushB, get_putB, pickB_t, pickB_f, eqB_t, eqB_f, ltB_t, leB_t, AH.size_push, AH.size_put, AH.ro_push, AH.ro_put]
  refine callW_of (CopyNumbers_ok H h0 p _ hu (by omega)) ?_
  rintro r G1 ⟨hon, hE1⟩
  obtain ⟨nx, rfl⟩ := hon.block (by intro h; rw [h] at hb; simp at hb)
  have hb1 := Own.blk hon _ _ _ rfl
  simp only at hb1
  simp (disch := omega) only [go_sem, Nat.reduceEqDiff, Nat.reduceAdd, ↓reduceIte, get_pushB, get_putB, pickB_t, pickB_f, eqB_t, eqB_f, ltB_t, leB_t, AH.size_push, AH.size_put, AH.ro_push, AH.ro_put]
  refine Sat_loop 3000 (fun k H' V => ∃ (i : Nat) (x4 : Value), i ≤ p.length ∧ k = p.length - i ∧ Fr nx G1 H' ∧ OwnI H H' (.slice (some ⟨nx, 0, none⟩) p.length 1) (zeroP a p i) ∧ V = [.slice pd a.length cd, .slice pp p.length cp, x4, .slice (some ⟨nx, 0, none⟩) p.length 1, .int .i64 i]) p.length ⟨0, _, by omega, by omega, Fr.refl _ _, hon, rfl⟩ ?_
  rintro k H' V ⟨i, x4, hi, rfl, hF, ho, rfl⟩ ih
  have hEF := hF.ext hE1 (by omega)
  have h' := Ints.mono hEF h
  have hzl := zeroP_len a p i
  simp (disch := omega) only [go_sem, Nat.reduceEqDiff, Nat.reduceAdd, ↓reduceIte, get_pushB, get_putB, pickB_t, pickB_f, eqB_t, eqB_f, ltB_t, leB_t, AH.size_push, AH.size_put, AH.ro_push, AH.ro_put]
  refine Split.mk (fun h1 => ?_) (fun h1 => ?_)
  · have hi2 : i < p.length := by omega
    simp (disch := omega) only [go_sem, Nat.reduceEqDiff, Nat.reduceAdd, ↓reduceIte, get_pushB, get_putB, pickB_t, pickB_f, eqB_t, eqB_f, ltB_t, leB_t, AH.size_push, AH.size_put, AH.ro_push, AH.ro_put, ixI h', ldI h']
    refine Split.mk (fun h2 => ?_) (fun h2 => ?_)
    · obtain ⟨hst, ho2, hb1, hb2⟩ := ho.set i 0 (by omega)
      simp (disch := omega) only [go_sem, Nat.reduceEqDiff, Nat.reduceAdd, ↓reduceIte, get_pushB, get_putB, pickB_t, pickB_f, eqB_t, eqB_f, ltB_t, leB_t, AH.size_push, AH.size_put, AH.ro_push, AH.ro_put, ixI ho.ints, hst]
      refine ih _ _ _ ?_ ⟨i + 1, _, ?_, rfl, hF.trans (Fr.put _ _ hb1 _), ?_, rfl⟩
      · omega
      · omega
      · have e : zeroP a p (i + 1) = (zeroP a p i).set i 0 := by
          show (if gi a i = 1 then _ else _) = _
          rw [if_pos h2]; rfl
        rw [e]; exact ho2
    · simp (disch := omega) only [go_sem, Nat.reduceEqDiff, Nat.reduceAdd, ↓reduceIte, get_pushB, get_putB, pickB_t, pickB_f, eqB_t, eqB_f, ltB_t, leB_t, AH.size_push, AH.size_put, AH.ro_push, AH.ro_put]
      refine ih _ _ _ ?_ ⟨i + 1, _, ?_, rfl, hF, ?_, rfl⟩
      · omega
      · omega
      · have e : zeroP a p (i + 1) = zeroP a p i := by
          show (if gi a i = 1 then _ else _) = _
          rw [if_neg h2]; rfl
        rw [e]; exact ho
  · have hil : i = p.length := by omega
    subst hil
    simp (disch := omega) only [go_sem, Nat.reduceEqDiff, Nat.reduceAdd, ↓reduceIte, get_pushB, get_putB, pickB_t, pickB_f, eqB_t, eqB_f, ltB_t, leB_t, AH.size_push, AH.size_put, AH.ro_push, AH.ro_put]
    exact ⟨ho, hEF⟩
def atP (d p : List Int) : Int := iter (fun i n => IntKind.i64.wrap (IntKind.i64.wrap (n * gi d i) + gi p i)) d.length 0
theorem At_ok (H : AH) (d p : List Int) (v u : Value) (h : Ints H v d) (hp : Ints H u p) (hl : p.length = d.length) (hb : d.length ≤ 3) : Runs tb 111 [v, u] H (fun r H' => r = .int .i64 (atP d p) ∧ H' = H) := by
  obtain ⟨pd, cd, rfl⟩ := h.inv
  obtain ⟨pp, cp, rfl⟩ := hp.inv
  refine Runs_fn (fn := Try.f111) [.tmp 4] [0, 1, 4, 5, 6] [] 3000 (by kernel_rfl) rfl (by kernel_rfl) (by kernel_rfl) rfl ?_; simp only [pad, argAt]
  simp (disch := omega) only [go_sem, Nat.reduceEqDiff, Nat.reduceAdd, ↓reduceIte, get_pushB, get_putB, pickB_t, pickB_f, eqB_t, eqB_f, ltB_t, leB_t, AH.size_push, AH.size_put, AH.ro_push, AH.ro_put]
  refine Sat_loop 3000 (fun k H' V => ∃ (i : Nat) (x4 : Value), i ≤ d.length ∧ k = d.length - i ∧ H' = H ∧ V = [.slice pd d.length cd, .slice pp p.length cp, x4, .int .i64 (iter (fun i n => IntKind.i64.wrap (IntKind.i64.wrap (n * gi d i) + gi p i)) i 0), .int .i64 i]) d.length ⟨0, _, by omega, by omega, rfl, rfl⟩ ?_
  rintro k H' V ⟨i, x4, hi, rfl, rfl, rfl⟩ ih
  simp (disch := omega) only [go_sem, Nat.reduceEqDiff, Nat.reduceAdd, ↓reduceIte, get_pushB, get_putB, pickB_t, pickB_f, eqB_t, eqB_f, ltB_t, leB_t, AH.size_push, AH.size_put, AH.ro_push, AH.ro_put]
  refine Split.mk (fun h1 => ?_) (fun h1 => ?_)
  · have hi2 : i < d.length := by omega
    simp (disch := omega) only [go_sem, Nat.reduceEqDiff, Nat.reduceAdd, ↓reduceIte, get_pushB, get_putB, pickB_t, pickB_f, eqB_t, eqB_f, ltB_t, leB_t, AH.size_push, AH.size_put, AH.ro_push, AH.ro_put, ixI h, ldI h, ixI hp, ldI hp]
    refine ih _ _ _ ?_ ⟨i + 1, _, ?_, rfl, rfl, rfl⟩
    · omega
    · omega
  · have hil : i = d.length := by omega
    subst hil
    simp (disch := omega) only [go_sem, Nat.reduceEqDiff, Nat.reduceAdd, ↓reduceIte, get_pushB, get_putB, pickB_t, pickB_f, eqB_t, eqB_f, ltB_t, leB_t, AH.size_push, AH.size_put, AH.ro_push, AH.ro_put]
    exact ⟨rfl, trivial⟩
end Go.Proofs.K
set_option linter.unusedVariables false
set_option linter.unusedSimpArgs false
namespace Go.Proofs.K
open Go Go.Ab
theorem prodL_0 : prodL [] = 1 := rfl
theorem gi0 (x : Int) (l : List Int) : gi (x :: l) ((0 : Nat) : Int) = x := by simp [gi]
theorem gi1 (x y : Int) (l : List Int) : gi (x :: y :: l) ((1 : Nat) : Int) = y := by simp [gi]
theorem gi2 (x y z : Int) (l : List Int) : gi (x :: y :: z :: l) ((2 : Nat) : Int) = z := by simp [gi]
def zq (a p : Int) : Int := if a = 1 then 0 else p
theorem zero1 (a p : Int) : zeroP [a] [p] 1 = [zq a p] := by
  simp only [zeroP, iter, gi0, zq]; split <;> rfl
theorem zero2 (a b p q : Int) : zeroP [a, b] [p, q] 2 = [zq a p, zq b q] := by
  simp only [zeroP, iter, gi0, gi1, zq]; split <;> split <;> rfl
theorem zero3 (a b c p q r : Int) : zeroP [a, b, c] [p, q, r] 3 = [zq a p, zq b q, zq c r] := by
  simp only [zeroP, iter, gi0, gi1, gi2, zq]; split <;> split <;> split <;> rfl
theorem zq_bd {a b p : Int} (h : a = 1 ∨ a = b) (hp : 0 ≤ p ∧ p < b) (ha : 1 ≤ a) : 0 ≤ zq a p ∧ zq a p < a := by
  unfold zq; split <;> omega
theorem str1 (a : Int) : strP [a] = [1] := rfl
theorem str2 (a b : Int) (hb : 1 ≤ b ∧ b ≤ 8) : strP [a, b] = [b, 1] := by
  show [prodL [b], prodL []] = _
  rw [prodL_1 _ hb]; rfl
theorem str3 (a b c : Int) (hb : 1 ≤ b ∧ b ≤ 8) (hc : 1 ≤ c ∧ c ≤ 8) : strP [a, b, c] = [b * c, c, 1] := by
  show [prodL [b, c], prodL [c], prodL []] = _
  rw [prodL_1 _ hc, prodL_2 _ _ hb hc]; rfl
theorem w_in {x : Int} (h : 0 ≤ x ∧ x ≤ 1000000) : IntKind.i64.wrap x = x := w64_in (by omega)
theorem place1 (a q : Int) (hq : 0 ≤ q ∧ q < 8) : placeP [a] [q] = q := by
  show IntKind.i64.wrap (0 + IntKind.i64.wrap (gi (strP [a]) ((0 : Nat) : Int) * gi [q] ((0 : Nat) : Int))) = q
  rw [str1, gi0, gi0, Int.one_mul, w_in (x := q) (by omega), Int.zero_add, w_in (by omega)]
theorem place2 (a b p q : Int) (hb : 1 ≤ b ∧ b ≤ 8) (hp : 0 ≤ p ∧ p < 8) (hq : 0 ≤ q ∧ q < 8) : placeP [a, b] [p, q] = b * p + q := by
  show IntKind.i64.wrap (IntKind.i64.wrap (0 + IntKind.i64.wrap (gi (strP [a, b]) ((0 : Nat) : Int) * gi [p, q] ((0 : Nat) : Int))) + IntKind.i64.wrap (gi (strP [a, b]) ((1 : Nat) : Int) * gi [p, q] ((1 : Nat) : Int))) = _
  have h := mul_bd (a := b) (b := p) (m := 8) (n := 8) (by omega) (by omega)
  rw [str2 _ _ hb, gi0, gi0, gi1, gi1, Int.one_mul, w_in (x := q) (by omega), w_in (x := b * p) (by omega), Int.zero_add, w_in (x := b * p) (by omega), w_in (by omega)]
theorem place3 (a b c p q r : Int) (hb : 1 ≤ b ∧ b ≤ 8) (hc : 1 ≤ c ∧ c ≤ 8) (hp : 0 ≤ p ∧ p < 8) (hq : 0 ≤ q ∧ q < 8) (hr : 0 ≤ r ∧ r < 8) : placeP [a, b, c] [p, q, r] = b * c * p + c * q + r := by
  show IntKind.i64.wrap (IntKind.i64.wrap (IntKind.i64.wrap (0 + IntKind.i64.wrap (gi (strP [a, b, c]) ((0 : Nat) : Int) * gi [p, q, r] ((0 : Nat) : Int))) + IntKind.i64.wrap (gi (strP [a, b, c]) ((1 : Nat) : Int) * gi [p, q, r] ((1 : Nat) : Int))) + IntKind.i64.wrap (gi (strP [a, b, c]) ((2 : Nat) : Int) * gi [p, q, r] ((2 : Nat) : Int))) = _
  have h0 := mul_bd (a := b) (b := c) (m := 8) (n := 8) (by omega) (by omega)
  have h := mul_bd (a := b * c) (b := p) (m := 64) (n := 8) (by omega) (by omega)
  have h2 := mul_bd (a := c) (b := q) (m := 8) (n := 8) (by omega) (by omega)
  rw [str3 _ _ _ hb hc, gi0, gi0, gi1, gi1, gi2, gi2, Int.one_mul, w_in (x := r) (by omega), w_in (x := b * c * p) (by omega), w_in (x := c * q) (by omega), Int.zero_add, w_in (x := b * c * p) (by omega), w_in (x := b * c * p + c * q) (by omega), w_in (by omega)]
theorem at1 (a q : Int) (hq : 0 ≤ q ∧ q < 8) : atP [a] [q] = q := by
  show IntKind.i64.wrap (IntKind.i64.wrap (0 * gi [a] ((0 : Nat) : Int)) + gi [q] ((0 : Nat) : Int)) = q
  rw [gi0, gi0, Int.zero_mul, w_in (x := 0) (by omega), Int.zero_add, w_in (by omega)]
theorem at2 (a b p q : Int) (hb : 1 ≤ b ∧ b ≤ 8) (hp : 0 ≤ p ∧ p < 8) (hq : 0 ≤ q ∧ q < 8) : atP [a, b] [p, q] = b * p + q := by
  show IntKind.i64.wrap (IntKind.i64.wrap (IntKind.i64.wrap (IntKind.i64.wrap (0 * gi [a, b] ((0 : Nat) : Int)) + gi [p, q] ((0 : Nat) : Int)) * gi [a, b] ((1 : Nat) : Int)) + gi [p, q] ((1 : Nat) : Int)) = _
  have h := mul_bd (a := p) (b := b) (m := 8) (n := 8) (by omega) (by omega)
  rw [gi0, gi0, gi1, gi1, Int.zero_mul, w_in (x := 0) (by omega), Int.zero_add, w_in (x := p) (by omega), w_in (x := p * b) (by omega), w_in (by omega), Int.mul_comm]
theorem at3 (a b c p q r : Int) (hb : 1 ≤ b ∧ b ≤ 8) (hc : 1 ≤ c ∧ c ≤ 8) (hp : 0 ≤ p ∧ p < 8) (hq : 0 ≤ q ∧ q < 8) (hr : 0 ≤ r ∧ r < 8) : atP [a, b, c] [p, q, r] = b * c * p + c * q + r := by
  show IntKind.i64.wrap (IntKind.i64.wrap (IntKind.i64.wrap (IntKind.i64.wrap (IntKind.i64.wrap (IntKind.i64.wrap (0 * gi [a, b, c] ((0 : Nat) : Int)) + gi [p, q, r] ((0 : Nat) : Int)) * gi [a, b, c] ((1 : Nat) : Int)) + gi [p, q, r] ((1 : Nat) : Int)) * gi [a, b, c] ((2 : Nat) : Int)) + gi [p, q, r] ((2 : Nat) : Int)) = _
  have h := mul_bd (a := p) (b := b) (m := 8) (n := 8) (by omega) (by omega)
  have h2 := mul_bd (a := p * b + q) (b := c) (m := 72) (n := 8) (by omega) (by omega)
  rw [gi0, gi0, gi1, gi1, gi2, gi2, Int.zero_mul, w_in (x := 0) (by omega), Int.zero_add, w_in (x := p) (by omega), w_in (x := p * b) (by omega), w_in (x := p * b + q) (by omega), w_in (x := (p * b + q) * c) (by omega), w_in (by omega), Int.add_mul, Int.mul_comm q c, Int.mul_assoc, Int.mul_comm p (b * c)]
/-- Numbers of a place. -/
theorem num1 (b n : Int) : numP [b] n = [n] := by
  show ([0].set 0 (n / gi (strP [b]) ((0 : Nat) : Int))) = _
  rw [str1, gi0, Int.ediv_one]; rfl
theorem num2 (a b n : Int) (hb : 1 ≤ b ∧ b ≤ 8) : numP [a, b] n = [n / b, n % b] := by
  show (([0, 0].set 0 (n / gi (strP [a, b]) ((0 : Nat) : Int))).set 1 (n % gi (strP [a, b]) ((0 : Nat) : Int) / gi (strP [a, b]) ((1 : Nat) : Int))) = _
  rw [str2 _ _ hb, gi0, gi1, Int.ediv_one]; rfl
theorem num3 (a b c n : Int) (hb : 1 ≤ b ∧ b ≤ 8) (hc : 1 ≤ c ∧ c ≤ 8) : numP [a, b, c] n = [n / (b * c), n % (b * c) / c, n % (b * c) % c] := by
  show ((([0, 0, 0].set 0 (n / gi (strP [a, b, c]) ((0 : Nat) : Int))).set 1 (n % gi (strP [a, b, c]) ((0 : Nat) : Int) / gi (strP [a, b, c]) ((1 : Nat) : Int))).set 2 (n % gi (strP [a, b, c]) ((0 : Nat) : Int) % gi (strP [a, b, c]) ((1 : Nat) : Int) / gi (strP [a, b, c]) ((2 : Nat) : Int))) = _
  rw [str3 _ _ _ hb hc, gi0, gi1, gi2, Int.ediv_one]; rfl
theorem where1 (b n : Int) : whereP [b] n = [n % b] := by
  show ([0].set 0 (n % gi [b] ((0 : Nat) : Int))) = _
  rw [gi0]; rfl
theorem where2 (a b n : Int) : whereP [a, b] n = [n / b % a, n % b] := by
  show (([0, 0].set 1 (n % gi [a, b] ((1 : Nat) : Int))).set 0 (n / gi [a, b] ((1 : Nat) : Int) % gi [a, b] ((0 : Nat) : Int))) = _
  rw [gi0, gi1]; rfl
theorem where3 (a b c n : Int) : whereP [a, b, c] n = [n / c / b % a, n / c % b, n % c] := by
  show ((([0, 0, 0].set 2 (n % gi [a, b, c] ((2 : Nat) : Int))).set 1 (n / gi [a, b, c] ((2 : Nat) : Int) % gi [a, b, c] ((1 : Nat) : Int))).set 0 (n / gi [a, b, c] ((2 : Nat) : Int) / gi [a, b, c] ((1 : Nat) : Int) % gi [a, b, c] ((0 : Nat) : Int))) = _
  rw [gi0, gi1, gi2]; rfl
theorem mod_id {n b : Int} (h : 0 ≤ n ∧ n < b) : n % b = n := Int.emod_eq_of_lt h.1 h.2
theorem div_lt {n a b : Int} (hn : 0 ≤ n) (h : n < a * b) (hb : 1 ≤ b) : 0 ≤ n / b ∧ n / b < a :=
  ⟨Int.ediv_nonneg hn (by omega), Int.ediv_lt_of_lt_mul (by omega) h⟩
/-- The places are the same, and within. -/
theorem low_at {a b : List Int} (ha : mayP a = true) (hb : mayP b = true) (hg : growsP a b = true) {n : Int} (hn : 0 ≤ n ∧ n < prodL b) : whereP b n = numP b n ∧ lowP a b n = atP a (zeroP a (whereP b n) a.length) ∧ 0 ≤ lowP a b n ∧ lowP a b n < prodL a := by
  simp only [growsP, Bool.and_eq_true, decide_eq_true_eq, List.all_eq_true, List.mem_range, Bool.or_eq_true] at hg
  obtain ⟨hl, hg⟩ := hg
  rcases mayP_cases hb with ⟨b0, rfl, hb0⟩ | ⟨b0, b1, rfl, hb0, hb1⟩ | ⟨b0, b1, b2, rfl, hb0, hb1, hb2, hp⟩
  · rcases mayP_cases ha with ⟨a0, rfl, ha0⟩ | ⟨a0, a1, rfl, ha0, ha1⟩ | ⟨a0, a1, a2, rfl, ha0, ha1, ha2, hq⟩
    · have g0 := hg 0 (by simp)
      rw [gi0, gi0] at g0
      rw [prodL_1 _ hb0] at hn
      have hz := zq_bd (p := n) g0 hn ha0.1
      have e : whereP [b0] n = numP [b0] n := by rw [where1, num1, mod_id hn]
      have e2 : lowP [a0] [b0] n = zq a0 n := by
        show placeP [a0] (zeroP [a0] (numP [b0] n) 1) = _
        rw [num1, zero1, place1 _ _ (by omega)]
      refine ⟨e, ?_, by rw [e2]; omega, by rw [e2, prodL_1 _ ha0]; omega⟩
      rw [e2, e, num1]
      show _ = atP [a0] (zeroP [a0] [n] 1)
      rw [zero1, at1 _ _ (by omega)]
    · simp at hl
    · simp at hl
  · rcases mayP_cases ha with ⟨a0, rfl, ha0⟩ | ⟨a0, a1, rfl, ha0, ha1⟩ | ⟨a0, a1, a2, rfl, ha0, ha1, ha2, hq⟩
    · simp at hl
    · have g0 := hg 0 (by simp)
      have g1 := hg 1 (by simp)
      rw [gi0, gi0] at g0
      rw [gi1, gi1] at g1
      rw [prodL_2 _ _ hb0 hb1] at hn
      have hd := div_lt hn.1 hn.2 hb1.1
      have hm : 0 ≤ n % b1 ∧ n % b1 < b1 := ⟨Int.emod_nonneg _ (by omega), Int.emod_lt_of_pos _ (by omega)⟩
      have hz0 := zq_bd (p := n / b1) g0 hd ha0.1
      have hz1 := zq_bd (p := n % b1) g1 hm ha1.1
      have e : whereP [b0, b1] n = numP [b0, b1] n := by rw [where2, num2 _ _ _ hb1, mod_id hd]
      have e2 : lowP [a0, a1] [b0, b1] n = a1 * zq a0 (n / b1) + zq a1 (n % b1) := by
        show placeP [a0, a1] (zeroP [a0, a1] (numP [b0, b1] n) 2) = _
        rw [num2 _ _ _ hb1, zero2, place2 _ _ _ _ ha1 (by omega) (by omega)]
      have hx := Int.mul_nonneg (a := a1) (b := zq a0 (n / b1)) (by omega) hz0.1
      have hy := Int.mul_le_mul_of_nonneg_left (a := zq a0 (n / b1)) (b := a0 - 1) (c := a1) (by omega) (by omega)
      refine ⟨e, ?_, by rw [e2]; omega, ?_⟩
      · rw [e2, e, num2 _ _ _ hb1]
        show _ = atP [a0, a1] (zeroP [a0, a1] [n / b1, n % b1] 2)
        rw [zero2, at2 _ _ _ _ ha1 (by omega) (by omega)]
      · rw [e2, prodL_2 _ _ ha0 ha1, Int.mul_comm a0 a1]
        rw [Int.mul_sub, Int.mul_one] at hy
        omega
    · simp at hl
  · rcases mayP_cases ha with ⟨a0, rfl, ha0⟩ | ⟨a0, a1, rfl, ha0, ha1⟩ | ⟨a0, a1, a2, rfl, ha0, ha1, ha2, hq⟩
    · simp at hl
    · simp at hl
    · have g0 := hg 0 (by simp)
      have g1 := hg 1 (by simp)
      have g2 := hg 2 (by simp)
      rw [gi0, gi0] at g0
      rw [gi1, gi1] at g1
      rw [gi2, gi2] at g2
      rw [prodL_3 _ _ _ hb0 hb1 hb2] at hn
      have hbb := Int.mul_le_mul (a := 1) (b := 1) (c := b1) (d := b2) hb1.1 hb2.1 (by omega) (by omega)
      have hd := div_lt (a := b0) (b := b1 * b2) hn.1 (by rw [← Int.mul_assoc]; exact hn.2) (by omega)
      have hm2 : 0 ≤ n % b2 ∧ n % b2 < b2 := ⟨Int.emod_nonneg _ (by omega), Int.emod_lt_of_pos _ (by omega)⟩
      have hm1 : 0 ≤ n / b2 % b1 ∧ n / b2 % b1 < b1 := ⟨Int.emod_nonneg _ (by omega), Int.emod_lt_of_pos _ (by omega)⟩
      have f0 : n / b2 / b1 = n / (b1 * b2) := by rw [Int.ediv_ediv_of_nonneg (by omega), Int.mul_comm]
      obtain ⟨N, rfl⟩ : ∃ N : Nat, n = N := ⟨n.toNat, by omega⟩
      obtain ⟨B1, rfl⟩ : ∃ N : Nat, b1 = N := ⟨b1.toNat, by omega⟩
      obtain ⟨B2, rfl⟩ : ∃ N : Nat, b2 = N := ⟨b2.toNat, by omega⟩
      have f1 : (N : Int) % ((B1 : Int) * B2) / B2 = (N : Int) / B2 % B1 := by
        have := Nat.mod_mul_left_div_self N B2 B1
        exact_mod_cast this
      have f2 : (N : Int) % ((B1 : Int) * B2) % B2 = (N : Int) % B2 := by
        have := Nat.mod_mul_left_mod N B1 B2
        exact_mod_cast this
      have hz0 := zq_bd (p := (N : Int) / (B1 * B2)) g0 hd ha0.1
      have hz1 := zq_bd (p := (N : Int) / B2 % B1) g1 hm1 ha1.1
      have hz2 := zq_bd (p := (N : Int) % B2) g2 hm2 ha2.1
      have e : whereP [b0, B1, B2] N = numP [b0, B1, B2] N := by rw [where3, num3 _ _ _ _ hb1 hb2, f0, f1, f2, mod_id hd]
      have e2 : lowP [a0, a1, a2] [b0, B1, B2] N = a1 * a2 * zq a0 ((N : Int) / (B1 * B2)) + a2 * zq a1 ((N : Int) / B2 % B1) + zq a2 ((N : Int) % B2) := by
        show placeP [a0, a1, a2] (zeroP [a0, a1, a2] (numP [b0, B1, B2] N) 3) = _
        rw [num3 _ _ _ _ hb1 hb2, zero3, f1, f2, place3 _ _ _ _ _ _ ha1 ha2 (by omega) (by omega) (by omega)]
      have haa := Int.mul_le_mul (a := 1) (b := 1) (c := a1) (d := a2) ha1.1 ha2.1 (by omega) (by omega)
      have hx := Int.mul_nonneg (a := a1 * a2) (b := zq a0 ((N : Int) / (B1 * B2))) (by omega) hz0.1
      have hx1 := Int.mul_nonneg (a := a2) (b := zq a1 ((N : Int) / B2 % B1)) (by omega) hz1.1
      have hy := Int.mul_le_mul_of_nonneg_left (a := zq a0 ((N : Int) / (B1 * B2))) (b := a0 - 1) (c := a1 * a2) (by omega) (by omega)
      have hy1 := Int.mul_le_mul_of_nonneg_left (a := zq a1 ((N : Int) / B2 % B1)) (b := a1 - 1) (c := a2) (by omega) (by omega)
      refine ⟨e, ?_, by rw [e2]; omega, ?_⟩
      · rw [e2, e, num3 _ _ _ _ hb1 hb2, f1, f2]
        show _ = atP [a0, a1, a2] (zeroP [a0, a1, a2] [(N : Int) / (B1 * B2), (N : Int) / B2 % B1, (N : Int) % B2] 3)
        rw [zero3, at3 _ _ _ _ _ _ ha1 ha2 (by omega) (by omega) (by omega)]
      · rw [e2, prodL_3 _ _ _ ha0 ha1 ha2, Int.mul_assoc a0 a1 a2, Int.mul_comm a0 (a1 * a2)]
        rw [Int.mul_sub, Int.mul_one] at hy hy1
        rw [Int.mul_comm a2 a1] at hy1
        omega
end Go.Proofs.K
set_option linter.unusedVariables false
set_option maxRecDepth 8000
set_option maxHeartbeats 4000000
set_option linter.unusedSimpArgs false
namespace Go.Proofs.K
open Go Go.Ab
def wideP (a d : List Int) (l : List Int) : List Int := (List.range (prodL d).toNat).map fun (i : Nat) => gi l (lowP a d (i : Int))
theorem OwnI.ext2 {H0 H H' : AH} {v : Value} {l : List Int} (h : OwnI H0 H v l) (hE : Ext H H') : OwnI H0 H' v l := Own.ext h hE
theorem wideP_len (a d l : List Int) : (wideP a d l).length = (prodL d).toNat := by simp [wideP]
theorem Wide_ok (H : AH) (h0 : H.ro ≤ H.size) (a : Ten) (va : Value) (ha : TenV H va a) (ta : isT a = true) (d : List Int) (vd : Value) (hdd : Ints H vd d) (md : mayP d = true) : Runs tb 74 [va, vd] H (DoPost H (if growsP a.1 d then (d, wideP a.1 d a.2) else ([], [])) (if growsP a.1 d then 0 else 4)) := by
  obtain ⟨ad, ax, rfl, had, hax⟩ := id ha
  obtain ⟨ma, lp, la⟩ := isT_spec ta
  have hal := (mayP_spec ma).2.1
  obtain ⟨pv, cv, rfl⟩ := hdd.inv
  have hdl := (mayP_spec md).2.1
  obtain ⟨pa, ca, rfl⟩ := had.inv
  obtain ⟨qa, da, rfl⟩ := hax.inv
  refine Runs_fn (fn := Try.f74) [.cell 4 32, .tmp 5] [0, 1, 2, 4, 5, 6, 7, 29, 30] [(9, [(1, 9), (4, 9)])] 3000 (by kernel_rfl) rfl (by kernel_rfl) (by kernel_rfl) rfl ?_; simp only [pad, argAt]
  simp (disch := omega) only [go_sem, Nat.reduceEqDiff, Nat.reduceAdd, ↓reduceIte, get_pushB, get_putB, pickB_t, pickB_f, eqB_t, eqB_f, ltB_t, leB_t, AH.size_push, AH.size_put, AH.ro_push, AH.ro_put]
  refine callW_gen ?_
  intro G hG
  have hE : Ext H G := by rw [hG]; exact (Ext.push _ _).pushed _
  have hr := hE.ro
  have hs := hE.size
  have ga : G.get H.size = some [.slice pa a.1.length ca, .slice qa a.2.length da] := by rw [hG]; (try simp (disch := omega) only [get_pushB, get_putB, pickB_t, pickB_f, eqB_t, eqB_f, ltB_t, AH.size_push, AH.size_put, AH.ro_push, AH.ro_put])
  have g0 : G.get (H.size + 1) = some [.slice none 0 0, .slice none 0 0] := by rw [hG]; (try simp (disch := omega) only [get_pushB, get_putB, pickB_t, pickB_f, eqB_t, eqB_f, ltB_t, AH.size_push, AH.size_put, AH.ro_push, AH.ro_put])
  have hsz : G.size = H.size + 2 := by rw [hG]; rfl
  clear hG
  refine callW_of (Is_ok G a _ (TenV.mono hE ha)) ?_
  rintro r G1 ⟨rfl, hE1⟩
  have hr1 := hE1.ro
  have hs1 := hE1.size
  have ga := hE1.get _ _ ga
  have g0 := hE1.get _ _ g0
  have hE := hE.trans hE1
  have had1 := Ints.mono hE had
  simp (disch := omega) only [go_sem, Nat.reduceEqDiff, Nat.reduceAdd, ↓reduceIte, get_pushB, get_putB, pickB_t, pickB_f, eqB_t, eqB_f, ltB_t, leB_t, AH.size_push, AH.size_put, AH.ro_push, AH.ro_put, ta]
  refine callW_of (May_ok G1 d _ (Ints.mono hE hdd)) ?_
  rintro r G1' ⟨rfl, rfl⟩
  simp (disch := omega) only [go_sem, Nat.reduceEqDiff, Nat.reduceAdd, ↓reduceIte, get_pushB, get_putB, pickB_t, pickB_f, eqB_t, eqB_f, ltB_t, leB_t, AH.size_push, AH.size_put, AH.ro_push, AH.ro_put, md]
  simp (disch := omega) only [go_sem, Nat.reduceEqDiff, Nat.reduceAdd, ↓reduceIte, get_pushB, get_putB, pickB_t, pickB_f, eqB_t, eqB_f, ltB_t, leB_t, AH.size_push, AH.size_put, AH.ro_push, AH.ro_put, ga]
  refine callW_of (Grows_ok G1' a.1 d _ _ (Ints.mono hE had) (Ints.mono hE hdd)) ?_
  rintro r G1' ⟨rfl, rfl⟩
  by_cases e : growsP a.1 d = true
  · simp only [if_pos e]
    simp (disch := omega) only [go_sem, Nat.reduceEqDiff, Nat.reduceAdd, ↓reduceIte, get_pushB, get_putB, pickB_t, pickB_f, eqB_t, eqB_f, ltB_t, leB_t, AH.size_push, AH.size_put, AH.ro_push, AH.ro_put, e]
    refine callW_of (New_ok G1' (by omega) d _ (Ints.mono hE hdd) md) ?_
    rintro r G3 ⟨⟨nd, nx, rfl, hod, hox, hne⟩, hE3⟩
    have hr3 := hE3.ro
    have hs3 := hE3.size
    have hbd3 := Own.blk hod _ _ _ rfl
    have hbx3 := Own.blk hox _ _ _ rfl
    simp only at hbd3 hbx3
    have ga := hE3.get _ _ ga
    have g0 := hE3.get _ _ g0
    have hpd := prodL_pos md
    generalize hN : (prodL d).toNat = N at *
    simp only [List.length_replicate] at hod hox ⊢
    simp (disch := omega) only [go_sem, Nat.reduceEqDiff, Nat.reduceAdd, ↓reduceIte, get_pushB, get_putB, pickB_t, pickB_f, eqB_t, eqB_f, ltB_t, leB_t, AH.size_push, AH.size_put, AH.ro_push, AH.ro_put]
    refine Sat_gen ?_
    intro G4 hG4
    have hE4 : Ext G3 G4 := by rw [hG4]; exact (Ext.push _ _).put (Nat.le_refl _) (by simp only [AH.size_push]; omega) _
    have hs4 : G4.size = G3.size + 1 := by rw [hG4]; rfl
    have kt : G4.get G3.size = some [.slice (some ⟨nd, 0, none⟩) d.length 1, .slice (some ⟨nx, 0, none⟩) N 1] := by rw [hG4]; (try simp (disch := omega) only [get_pushB, get_putB, pickB_t, pickB_f, eqB_t, eqB_f, ltB_t, AH.size_push, AH.size_put, AH.ro_push, AH.ro_put])
    have hr4 := hE4.ro
    clear hG4
    have ga := hE4.get _ _ ga
    have g0 := hE4.get _ _ g0
    have hEH := hE.trans (hE3.trans hE4)
    have hZl : (wideP a.1 d a.2).length = N := by rw [wideP_len, hN]
    generalize hZ : wideP a.1 d a.2 = Z at *
    refine Sat_loop 3000 (fun k H' V => ∃ (i : Nat) (x7 : Value), i ≤ N ∧ k = N - i ∧ Fr nx G4 H' ∧ OwnI G1' H' (.slice (some ⟨nx, 0, none⟩) N 1) (Z.take i ++ List.replicate (N - i) 0) ∧ V = [.agg #[.slice pa a.1.length ca, .slice qa a.2.length da], .slice pv d.length cv, .pointer (some ⟨H.size, 0, none⟩), .pointer (some ⟨H.size + 1, 0, none⟩), .int .i64 0, .pointer (some ⟨G3.size, 0, none⟩), x7, .int .i64 N, .int .i64 i]) N ⟨0, _, by omega, by omega, Fr.refl _ _, by simpa using hox.ext hE4, rfl⟩ ?_
    rintro k H' V ⟨i, x7, hi, rfl, hF, ho, rfl⟩ ih
    have ja := hF.get _ _ (by omega) ga
    have jt := hF.get _ _ (by omega) kt
    have hrF := hF.ro
    have hsF := hF.size
    have hEF := hF.ext hEH (by omega)
    simp (disch := omega) only [go_sem, Nat.reduceEqDiff, Nat.reduceAdd, ↓reduceIte, get_pushB, get_putB, pickB_t, pickB_f, eqB_t, eqB_f, ltB_t, leB_t, AH.size_push, AH.size_put, AH.ro_push, AH.ro_put, jt]
    refine Split.mk (fun h1 => ?_) (fun h1 => ?_)
    · have hi2 : i < N := by omega
      have hlen : (Z.take i ++ List.replicate (N - i) (0 : Int)).length = N := by simp; omega
      have hlow := low_at ma md e (n := i) (by omega)
      have hgl : a.1.length = d.length := by have := e; simp only [growsP, Bool.and_eq_true, decide_eq_true_eq] at this; exact this.1
      have hzi : gi a.2 (lowP a.1 d i) = Z[i]'(by omega) := by subst hZ; simp [wideP]
      have b1 : aload tb 23 (.pointer (some ⟨G3.size, 1, none⟩)) H'.get = some (.slice (some ⟨nx, 0, none⟩) N 1) := by simp (disch := omega) only [go_sem, Nat.reduceEqDiff, Nat.reduceAdd, ↓reduceIte, get_pushB, get_putB, pickB_t, pickB_f, eqB_t, eqB_f, ltB_t, leB_t, AH.size_push, AH.size_put, AH.ro_push, AH.ro_put, jt]
      have b2 : aload tb 23 (.pointer (some ⟨H.size, 1, none⟩)) H'.get = some (.slice qa a.2.length da) := by simp (disch := omega) only [go_sem, Nat.reduceEqDiff, Nat.reduceAdd, ↓reduceIte, get_pushB, get_putB, pickB_t, pickB_f, eqB_t, eqB_f, ltB_t, leB_t, AH.size_push, AH.size_put, AH.ro_push, AH.ro_put, ja]
      simp (disch := omega) only [go_sem, Nat.reduceEqDiff, Nat.reduceAdd, ↓reduceIte, get_pushB, get_putB, pickB_t, pickB_f, eqB_t, eqB_f, ltB_t, leB_t, AH.size_push, AH.size_put, AH.ro_push, AH.ro_put, ja, jt]
      refine ⟨⟨Same.of b2 b2 (by simp [seqV, seq1]), Same.of b1 b1 (by simp [seqV, seq1]), trivial⟩, ?_⟩
      refine callW_of (low_ok H' (by omega) a.1 d i _ _ (Ints.mono hEF had) (Ints.mono hEF hdd) hgl ma md (by omega)) ?_
      rintro r H2 ⟨rfl, hE2⟩
      have c1 := aload_ext hE2 b1
      have c2 := aload_ext hE2 b2
      have hax2 := Ints.mono (hEF.trans hE2) hax
      have hr2 := hE2.ro
      have hs2 := hE2.size
      obtain ⟨hst, ho2, hb1, hb2⟩ := OwnI.set (ho.ext hE2) i (gi a.2 (lowP a.1 d i)) (by omega)
      simp (disch := omega) only [go_sem, Nat.reduceEqDiff, Nat.reduceAdd, ↓reduceIte, get_pushB, get_putB, pickB_t, pickB_f, eqB_t, eqB_f, ltB_t, leB_t, AH.size_push, AH.size_put, AH.ro_push, AH.ro_put, ixI hax2, ldI hax2, ixI (OwnI.ints (Own.ext ho hE2)), hst]
      refine ⟨⟨Same.of b2 c2 (by simp [seqV, seq1]), Same.of b1 c1 (by simp [seqV, seq1]), trivial⟩, ?_⟩
      refine ih _ _ _ ?_ ⟨i + 1, .int .i64 i, ?_, rfl, (hF.trans (Fr.of_ext nx hE2)).trans (Fr.put nx _ hb1 _), ?_, rfl⟩
      · omega
      · omega
      · have := take_step Z i (by omega)
        simp only [hZl] at this
        rw [← this, ← hzi]; exact ho2
    · have hiN : i = N := by omega
      subst hiN
      have jt := hF.get _ _ (by omega) kt
      have j0 := hF.get _ _ (by omega) g0
      have hrF := hF.ro
      have hsF := hF.size
      have hEF := hF.ext hEH (by omega)
      have ho : OwnI G1' H' (.slice (some ⟨nx, 0, none⟩) i 1) Z := by
        have := ho
        rw [List.take_of_length_le (by omega), Nat.sub_self] at this
        simpa using this
      have hod2 : OwnI G1' H' (.slice (some ⟨nd, 0, none⟩) d.length 1) d := Own.fr (hod.ext hE4) hF (fun a n k e => by cases e; exact hne)
      have hT : OwnTD G1' H' (.agg #[.slice (some ⟨nd, 0, none⟩) d.length 1, .slice (some ⟨nx, 0, none⟩) i 1]) (d, Z) := ⟨_, _, rfl, hod2, ho, fun a n k e b m j e2 => by cases e; cases e2; exact fun e => hne e.symm⟩
      simp (disch := omega) only [go_sem, Nat.reduceEqDiff, Nat.reduceAdd, ↓reduceIte, get_pushB, get_putB, pickB_t, pickB_f, eqB_t, eqB_f, ltB_t, leB_t, AH.size_push, AH.size_put, AH.ro_push, AH.ro_put, j0, jt]
      exact ⟨_, rfl, hT.out hE h0 (by omega) _, hEF.put (by omega) (by omega) _⟩
  · simp only [if_neg e]
    have e' : growsP a.1 d = false := by simpa using e
    simp (disch := omega) only [go_sem, Nat.reduceEqDiff, Nat.reduceAdd, ↓reduceIte, get_pushB, get_putB, pickB_t, pickB_f, eqB_t, eqB_f, ltB_t, leB_t, AH.size_push, AH.size_put, AH.ro_push, AH.ro_put, e', abT0, g0]
    exact ⟨_, rfl, OwnTD.none _ _, Ext.put hE (by omega) (by omega) _⟩
theorem RefWide_ok (H : AH) (h0 : H.ro ≤ H.size) (a : Ten) (va : Value) (ha : TenV H va a) (ta : isT a = true) (d : List Int) (vd : Value) (hdd : Ints H vd d) (md : mayP d = true) (e : growsP a.1 d = true) : Runs tb 93 [va, vd] H (fun r H' => OwnTD H H' r (d, wideP a.1 d a.2) ∧ Ext H H') := by
  obtain ⟨ad, ax, rfl, had, hax⟩ := id ha
  obtain ⟨ma, lp, la⟩ := isT_spec ta
  obtain ⟨pv, cv, rfl⟩ := hdd.inv
  have hdl := mayP_spec md
  obtain ⟨pa, ca, rfl⟩ := had.inv
  obtain ⟨qa, da, rfl⟩ := hax.inv
  have hpd := prodL_pos md
  refine Runs_fn (fn := Try.f93) [.cell 4 32] [0, 1, 2, 4, 5, 6] [(5, [(1, 11), (1, 12), (1, 13), (4, 11), (4, 12), (4, 13), (6, 11), (6, 12), (8, 11)])] 3000 (by kernel_rfl) rfl (by kernel_rfl) (by kernel_rfl) rfl ?_; simp only [pad, argAt]
  simp (disch := omega) only [go_sem, Nat.reduceEqDiff, Nat.reduceAdd, ↓reduceIte, get_pushB, get_putB, pickB_t, pickB_f, eqB_t, eqB_f, ltB_t, leB_t, AH.size_push, AH.size_put, AH.ro_push, AH.ro_put]
  refine callW_gen ?_
  intro G2 hG2
  have hE : Ext H G2 := by rw [hG2]; exact (Ext.push _ _).pushed _
  have hsz2 : G2.size = H.size + 2 := by rw [hG2]; rfl
  have hr2 := hE.ro
  have ga : G2.get H.size = some [.slice pa a.1.length ca, .slice qa a.2.length da] := by rw [hG2]; (try simp (disch := omega) only [get_pushB, get_putB, pickB_t, pickB_f, eqB_t, eqB_f, ltB_t, AH.size_push, AH.size_put, AH.ro_push, AH.ro_put])
  have g0 : G2.get (H.size + 1) = some [.slice none 0 0, .slice none 0 0] := by rw [hG2]; (try simp (disch := omega) only [get_pushB, get_putB, pickB_t, pickB_f, eqB_t, eqB_f, ltB_t, AH.size_push, AH.size_put, AH.ro_push, AH.ro_put])
  clear hG2
  refine callW_of (RefFill_ok G2 (by omega) _ 0 _ (Ints.mono hE hdd) md) ?_
  rintro r G3 ⟨⟨vd, vx, rfl, hod, hox, hne⟩, hE3⟩
  obtain ⟨pd, cd, rfl⟩ := hod.ints.inv
  obtain ⟨nx, rfl⟩ := hox.block (by intro h; have := congrArg List.length h; simp at this; omega)
  generalize hN : (prodL d).toNat = N at *
  simp only [List.length_replicate] at hox hne hod ⊢
  have hr3 := hE3.ro
  have hs3 := hE3.size
  have hbx3 := Own.blk hox _ _ _ rfl
  simp only at hbx3
  have ga := hE3.get _ _ ga
  have g0 := hE3.get _ _ g0
  simp (disch := omega) only [go_sem, Nat.reduceEqDiff, Nat.reduceAdd, ↓reduceIte, get_pushB, get_putB, pickB_t, pickB_f, eqB_t, eqB_f, ltB_t, leB_t, AH.size_push, AH.size_put, AH.ro_push, AH.ro_put]
  refine Sat_gen ?_
  intro G4 hG4
  have hE4 : Ext G3 G4 := by rw [hG4]; exact (Ext.push _ _).put (Nat.le_refl _) (by simp only [AH.size_push]; omega) _
  have hs4 : G4.size = G3.size + 1 := by rw [hG4]; rfl
  have kt : G4.get G3.size = some [.slice pd d.length cd, .slice (some ⟨nx, 0, none⟩) N 1] := by rw [hG4]; (try simp (disch := omega) only [get_pushB, get_putB, pickB_t, pickB_f, eqB_t, eqB_f, ltB_t, AH.size_push, AH.size_put, AH.ro_push, AH.ro_put])
  have hr4 := hE4.ro
  clear hG4
  have ga := hE4.get _ _ ga
  have g0 := hE4.get _ _ g0
  have hEH := hE.trans (hE3.trans hE4)
  have hZl : (wideP a.1 d a.2).length = N := by rw [wideP_len, hN]
  generalize hZ : wideP a.1 d a.2 = Z at *
  have hgl : a.1.length = d.length := by have := e; simp only [growsP, Bool.and_eq_true, decide_eq_true_eq] at this; exact this.1
  refine Sat_loop 3000 (fun k H' V => ∃ (i : Nat), i ≤ N ∧ k = N - i ∧ Fr nx G4 H' ∧ OwnI G2 H' (.slice (some ⟨nx, 0, none⟩) N 1) (Z.take i ++ List.replicate (N - i) 0) ∧ V = [.agg #[.slice pa a.1.length ca, .slice qa a.2.length da], .slice pv d.length cv, .pointer (some ⟨H.size, 0, none⟩), .pointer (some ⟨H.size + 1, 0, none⟩), .pointer (some ⟨G3.size, 0, none⟩), .int .i64 i]) N ⟨0, by omega, by omega, Fr.refl _ _, by simpa using hox.ext hE4, rfl⟩ ?_
  rintro k H' V ⟨i, hi, rfl, hF, ho, rfl⟩ ih
  have ja := hF.get _ _ (by omega) ga
  have jt := hF.get _ _ (by omega) kt
  have hrF := hF.ro
  have hsF := hF.size
  have hEF := hF.ext hEH (by omega)
  simp (disch := omega) only [go_sem, Nat.reduceEqDiff, Nat.reduceAdd, ↓reduceIte, get_pushB, get_putB, pickB_t, pickB_f, eqB_t, eqB_f, ltB_t, leB_t, AH.size_push, AH.size_put, AH.ro_push, AH.ro_put, jt]
  refine Split.mk (fun h1 => ?_) (fun h1 => ?_)
  · have hi2 : i < N := by omega
    have hlen : (Z.take i ++ List.replicate (N - i) (0 : Int)).length = N := by simp; omega
    obtain ⟨hwn, hlow⟩ := low_at ma md e (n := i) (by omega)
    have hwl : (whereP d i).length = d.length := whereI_len d i _
    have hzi : gi a.2 (lowP a.1 d i) = Z[i]'(by omega) := by subst hZ; simp [wideP]
    have b1 : aload tb 23 (.pointer (some ⟨G3.size, 1, none⟩)) H'.get = some (.slice (some ⟨nx, 0, none⟩) N 1) := by simp (disch := omega) only [go_sem, Nat.reduceEqDiff, Nat.reduceAdd, ↓reduceIte, get_pushB, get_putB, pickB_t, pickB_f, eqB_t, eqB_f, ltB_t, leB_t, AH.size_push, AH.size_put, AH.ro_push, AH.ro_put, jt]
    have b2 : aload tb 23 (.pointer (some ⟨H.size, 1, none⟩)) H'.get = some (.slice qa a.2.length da) := by simp (disch := omega) only [go_sem, Nat.reduceEqDiff, Nat.reduceAdd, ↓reduceIte, get_pushB, get_putB, pickB_t, pickB_f, eqB_t, eqB_f, ltB_t, leB_t, AH.size_push, AH.size_put, AH.ro_push, AH.ro_put, ja]
    have b3 : aload tb 23 (.pointer (some ⟨H.size, 0, none⟩)) H'.get = some (.slice pa a.1.length ca) := by simp (disch := omega) only [go_sem, Nat.reduceEqDiff, Nat.reduceAdd, ↓reduceIte, get_pushB, get_putB, pickB_t, pickB_f, eqB_t, eqB_f, ltB_t, leB_t, AH.size_push, AH.size_put, AH.ro_push, AH.ro_put, ja]
    simp (disch := omega) only [go_sem, Nat.reduceEqDiff, Nat.reduceAdd, ↓reduceIte, get_pushB, get_putB, pickB_t, pickB_f, eqB_t, eqB_f, ltB_t, leB_t, AH.size_push, AH.size_put, AH.ro_push, AH.ro_put, ja, jt]
    refine ⟨by (repeat' apply And.intro) <;> first | trivial | exact Same.of b1 b1 (by simp [seqV, seq1]) | exact Same.of b2 b2 (by simp [seqV, seq1]) | exact Same.of b3 b3 (by simp [seqV, seq1]), ?_⟩
    refine callW_of (Where_ok H' (by omega) d i _ (Ints.mono hEF hdd) md (by omega)) ?_
    rintro r K1 ⟨how, hK1⟩
    obtain ⟨pw, cw, rfl⟩ := how.ints.inv
    have hrk := hK1.ro
    have hsk := hK1.size
    have c1 := aload_ext hK1 b1
    have c2 := aload_ext hK1 b2
    have c3 := aload_ext hK1 b3
    simp (disch := omega) only [go_sem, Nat.reduceEqDiff, Nat.reduceAdd, ↓reduceIte, get_pushB, get_putB, pickB_t, pickB_f, eqB_t, eqB_f, ltB_t, leB_t, AH.size_push, AH.size_put, AH.ro_push, AH.ro_put]
    refine ⟨by (repeat' apply And.intro) <;> first | trivial | exact Same.of b1 b1 (by simp [seqV, seq1]) | exact Same.of b1 c1 (by simp [seqV, seq1]) | exact Same.of c1 b1 (by simp [seqV, seq1]) | exact Same.of c1 c1 (by simp [seqV, seq1]) | exact Same.of b2 b2 (by simp [seqV, seq1]) | exact Same.of b2 c2 (by simp [seqV, seq1]) | exact Same.of c2 b2 (by simp [seqV, seq1]) | exact Same.of c2 c2 (by simp [seqV, seq1]) | exact Same.of b3 b3 (by simp [seqV, seq1]) | exact Same.of b3 c3 (by simp [seqV, seq1]) | exact Same.of c3 b3 (by simp [seqV, seq1]) | exact Same.of c3 c3 (by simp [seqV, seq1]), ?_⟩
    refine ⟨by (repeat' apply And.intro) <;> first | trivial | exact Same.of b1 b1 (by simp [seqV, seq1]) | exact Same.of b1 c1 (by simp [seqV, seq1]) | exact Same.of c1 b1 (by simp [seqV, seq1]) | exact Same.of c1 c1 (by simp [seqV, seq1]) | exact Same.of b2 b2 (by simp [seqV, seq1]) | exact Same.of b2 c2 (by simp [seqV, seq1]) | exact Same.of c2 b2 (by simp [seqV, seq1]) | exact Same.of c2 c2 (by simp [seqV, seq1]) | exact Same.of b3 b3 (by simp [seqV, seq1]) | exact Same.of b3 c3 (by simp [seqV, seq1]) | exact Same.of c3 b3 (by simp [seqV, seq1]) | exact Same.of c3 c3 (by simp [seqV, seq1]), ?_⟩
    refine callW_of (RefNarrow_ok K1 (by omega) a.1 _ _ _ (Ints.mono (hEF.trans hK1) had) how.ints (by omega) (by omega)) ?_
    rintro r K2 ⟨hon, hK2⟩
    obtain ⟨pn, cn, rfl⟩ := hon.ints.inv
    have hrk2 := hK2.ro
    have hsk2 := hK2.size
    have d1 := aload_ext hK2 c1
    have d2 := aload_ext hK2 c2
    have d3 := aload_ext hK2 c3
    simp (disch := omega) only [go_sem, Nat.reduceEqDiff, Nat.reduceAdd, ↓reduceIte, get_pushB, get_putB, pickB_t, pickB_f, eqB_t, eqB_f, ltB_t, leB_t, AH.size_push, AH.size_put, AH.ro_push, AH.ro_put]
    refine ⟨by (repeat' apply And.intro) <;> first | trivial | exact Same.of b1 b1 (by simp [seqV, seq1]) | exact Same.of b1 c1 (by simp [seqV, seq1]) | exact Same.of b1 d1 (by simp [seqV, seq1]) | exact Same.of c1 b1 (by simp [seqV, seq1]) | exact Same.of c1 c1 (by simp [seqV, seq1]) | exact Same.of c1 d1 (by simp [seqV, seq1]) | exact Same.of d1 b1 (by simp [seqV, seq1]) | exact Same.of d1 c1 (by simp [seqV, seq1]) | exact Same.of d1 d1 (by simp [seqV, seq1]) | exact Same.of b2 b2 (by simp [seqV, seq1]) | exact Same.of b2 c2 (by simp [seqV, seq1]) | exact Same.of b2 d2 (by simp [seqV, seq1]) | exact Same.of c2 b2 (by simp [seqV, seq1]) | exact Same.of c2 c2 (by simp [seqV, seq1]) | exact Same.of c2 d2 (by simp [seqV, seq1]) | exact Same.of d2 b2 (by simp [seqV, seq1]) | exact Same.of d2 c2 (by simp [seqV, seq1]) | exact Same.of d2 d2 (by simp [seqV, seq1]) | exact Same.of b3 b3 (by simp [seqV, seq1]) | exact Same.of b3 c3 (by simp [seqV, seq1]) | exact Same.of b3 d3 (by simp [seqV, seq1]) | exact Same.of c3 b3 (by simp [seqV, seq1]) | exact Same.of c3 c3 (by simp [seqV, seq1]) | exact Same.of c3 d3 (by simp [seqV, seq1]) | exact Same.of d3 b3 (by simp [seqV, seq1]) | exact Same.of d3 c3 (by simp [seqV, seq1]) | exact Same.of d3 d3 (by simp [seqV, seq1]), ?_⟩
    refine ⟨by (repeat' apply And.intro) <;> first | trivial | exact Same.of b1 b1 (by simp [seqV, seq1]) | exact Same.of b1 c1 (by simp [seqV, seq1]) | exact Same.of b1 d1 (by simp [seqV, seq1]) | exact Same.of c1 b1 (by simp [seqV, seq1]) | exact Same.of c1 c1 (by simp [seqV, seq1]) | exact Same.of c1 d1 (by simp [seqV, seq1]) | exact Same.of d1 b1 (by simp [seqV, seq1]) | exact Same.of d1 c1 (by simp [seqV, seq1]) | exact Same.of d1 d1 (by simp [seqV, seq1]) | exact Same.of b2 b2 (by simp [seqV, seq1]) | exact Same.of b2 c2 (by simp [seqV, seq1]) | exact Same.of b2 d2 (by simp [seqV, seq1]) | exact Same.of c2 b2 (by simp [seqV, seq1]) | exact Same.of c2 c2 (by simp [seqV, seq1]) | exact Same.of c2 d2 (by simp [seqV, seq1]) | exact Same.of d2 b2 (by simp [seqV, seq1]) | exact Same.of d2 c2 (by simp [seqV, seq1]) | exact Same.of d2 d2 (by simp [seqV, seq1]) | exact Same.of b3 b3 (by simp [seqV, seq1]) | exact Same.of b3 c3 (by simp [seqV, seq1]) | exact Same.of b3 d3 (by simp [seqV, seq1]) | exact Same.of c3 b3 (by simp [seqV, seq1]) | exact Same.of c3 c3 (by simp [seqV, seq1]) | exact Same.of c3 d3 (by simp [seqV, seq1]) | exact Same.of d3 b3 (by simp [seqV, seq1]) | exact Same.of d3 c3 (by simp [seqV, seq1]) | exact Same.of d3 d3 (by simp [seqV, seq1]), ?_⟩
    have hzl := zeroP_len a.1 (whereP d i) (whereP d i).length
    refine callW_of (At_ok K2 a.1 _ _ _ (Ints.mono (hEF.trans (hK1.trans hK2)) had) hon.ints (by omega) (by omega)) ?_
    rintro r K3 ⟨rfl, rfl⟩
    rw [show (whereP d i).length = a.1.length by omega, ← hlow.1]
    have hax2 := Ints.mono (hEF.trans (hK1.trans hK2)) hax
    have ho3 := OwnI.ext2 ho (hK1.trans hK2)
    obtain ⟨hst, ho2, hb1, hb2⟩ := OwnI.set ho3 i (gi a.2 (lowP a.1 d i)) (by omega)
    simp (disch := omega) only [go_sem, Nat.reduceEqDiff, Nat.reduceAdd, ↓reduceIte, get_pushB, get_putB, pickB_t, pickB_f, eqB_t, eqB_f, ltB_t, leB_t, AH.size_push, AH.size_put, AH.ro_push, AH.ro_put, ixI hax2, ldI hax2, ixI (OwnI.ints ho3), hst]
    refine ⟨by (repeat' apply And.intro) <;> first | trivial | exact Same.of b1 b1 (by simp [seqV, seq1]) | exact Same.of b1 d1 (by simp [seqV, seq1]) | exact Same.of d1 b1 (by simp [seqV, seq1]) | exact Same.of d1 d1 (by simp [seqV, seq1]) | exact Same.of b2 b2 (by simp [seqV, seq1]) | exact Same.of b2 d2 (by simp [seqV, seq1]) | exact Same.of d2 b2 (by simp [seqV, seq1]) | exact Same.of d2 d2 (by simp [seqV, seq1]) | exact Same.of b3 b3 (by simp [seqV, seq1]) | exact Same.of b3 d3 (by simp [seqV, seq1]) | exact Same.of d3 b3 (by simp [seqV, seq1]) | exact Same.of d3 d3 (by simp [seqV, seq1]), ?_⟩
    refine ih _ _ _ ?_ ⟨i + 1, ?_, rfl, (hF.trans (Fr.of_ext nx (hK1.trans hK2))).trans (Fr.put nx _ hb1 _), ?_, rfl⟩
    · omega
    · omega
    · have := take_step Z i (by omega)
      simp only [hZl] at this
      rw [← this, ← hzi]; exact ho2
  · have hiN : i = N := by omega
    subst hiN
    have j0 := hF.get _ _ (by omega) g0
    have ho : OwnI G2 H' (.slice (some ⟨nx, 0, none⟩) i 1) Z := by
      have := ho
      rw [List.take_of_length_le (by omega), Nat.sub_self] at this
      simpa using this
    have hod2 : OwnI G2 H' (.slice pd d.length cd) d := Own.fr (hod.ext hE4) hF (fun p q r e => fun e2 => hne _ _ _ e _ _ _ rfl e2.symm)
    have hT : OwnTD G2 H' (.agg #[.slice pd d.length cd, .slice (some ⟨nx, 0, none⟩) i 1]) (d, Z) := ⟨_, _, rfl, hod2, ho, hne⟩
    simp (disch := omega) only [go_sem, Nat.reduceEqDiff, Nat.reduceAdd, ↓reduceIte, get_pushB, get_putB, pickB_t, pickB_f, eqB_t, eqB_f, ltB_t, leB_t, AH.size_push, AH.size_put, AH.ro_push, AH.ro_put, j0, jt]
    exact ⟨hT.out hE h0 (by omega) _, hEF.put (by omega) (by omega) _⟩
def sumStep (d b : List Int) (l : List Int) : Nat → List Int → List Int := fun i L => L.set (lowP d b (i : Int)).toNat (IntKind.i64.wrap (gi L (lowP d b (i : Int)) + gi l (i : Int)))
def sumI (d b l : List Int) (n : Nat) : List Int := iter (sumStep d b l) n (List.replicate (prodL d).toNat 0)
theorem sumI_len (d b l : List Int) (n : Nat) : (sumI d b l n).length = (prodL d).toNat :=
  iter_inv (fun (x : List Int) => x.length = (prodL d).toNat) _ (fun n x h => by simp [sumStep, h]) n _ (by simp)
theorem Sum_ok (H : AH) (h0 : H.ro ≤ H.size) (a : Ten) (va : Value) (ha : TenV H va a) (ta : isT a = true) (d : List Int) (vd : Value) (hdd : Ints H vd d) (md : mayP d = true) : Runs tb 75 [va, vd] H (DoPost H (if growsP d a.1 then (d, sumI d a.1 a.2 a.2.length) else ([], [])) (if growsP d a.1 then 0 else 4)) := by
  obtain ⟨ad, ax, rfl, had, hax⟩ := id ha
  obtain ⟨ma, lp, la⟩ := isT_spec ta
  have hal := (mayP_spec ma).2.1
  obtain ⟨pv, cv, rfl⟩ := hdd.inv
  have hdl := (mayP_spec md).2.1
  obtain ⟨pa, ca, rfl⟩ := had.inv
  obtain ⟨qa, da, rfl⟩ := hax.inv
  refine Runs_fn (fn := Try.f75) [.cell 4 32, .tmp 5] [0, 1, 2, 4, 5, 6, 7, 8, 29, 30, 31] [(9, [(1, 6)])] 3000 (by kernel_rfl) rfl (by kernel_rfl) (by kernel_rfl) rfl ?_; simp only [pad, argAt]
  simp (disch := omega) only [go_sem, Nat.reduceEqDiff, Nat.reduceAdd, ↓reduceIte, get_pushB, get_putB, pickB_t, pickB_f, eqB_t, eqB_f, ltB_t, leB_t, AH.size_push, AH.size_put, AH.ro_push, AH.ro_put]
  refine callW_gen ?_
  intro G hG
  have hE : Ext H G := by rw [hG]; exact (Ext.push _ _).pushed _
  have hr := hE.ro
  have hs := hE.size
  have ga : G.get H.size = some [.slice pa a.1.length ca, .slice qa a.2.length da] := by rw [hG]; (try simp (disch := omega) only [get_pushB, get_putB, pickB_t, pickB_f, eqB_t, eqB_f, ltB_t, AH.size_push, AH.size_put, AH.ro_push, AH.ro_put])
  have g0 : G.get (H.size + 1) = some [.slice none 0 0, .slice none 0 0] := by rw [hG]; (try simp (disch := omega) only [get_pushB, get_putB, pickB_t, pickB_f, eqB_t, eqB_f, ltB_t, AH.size_push, AH.size_put, AH.ro_push, AH.ro_put])
  have hsz : G.size = H.size + 2 := by rw [hG]; rfl
  clear hG
  refine callW_of (Is_ok G a _ (TenV.mono hE ha)) ?_
  rintro r G1 ⟨rfl, hE1⟩
  have hr1 := hE1.ro
  have hs1 := hE1.size
  have ga := hE1.get _ _ ga
  have g0 := hE1.get _ _ g0
  have hE := hE.trans hE1
  have had1 := Ints.mono hE had
  simp (disch := omega) only [go_sem, Nat.reduceEqDiff, Nat.reduceAdd, ↓reduceIte, get_pushB, get_putB, pickB_t, pickB_f, eqB_t, eqB_f, ltB_t, leB_t, AH.size_push, AH.size_put, AH.ro_push, AH.ro_put, ta]
  refine callW_of (May_ok G1 d _ (Ints.mono hE hdd)) ?_
  rintro r G1' ⟨rfl, rfl⟩
  simp (disch := omega) only [go_sem, Nat.reduceEqDiff, Nat.reduceAdd, ↓reduceIte, get_pushB, get_putB, pickB_t, pickB_f, eqB_t, eqB_f, ltB_t, leB_t, AH.size_push, AH.size_put, AH.ro_push, AH.ro_put, md]
  simp (disch := omega) only [go_sem, Nat.reduceEqDiff, Nat.reduceAdd, ↓reduceIte, get_pushB, get_putB, pickB_t, pickB_f, eqB_t, eqB_f, ltB_t, leB_t, AH.size_push, AH.size_put, AH.ro_push, AH.ro_put, ga]
  refine callW_of (Grows_ok G1' d a.1 _ _ (Ints.mono hE hdd) (Ints.mono hE had)) ?_
  rintro r G1' ⟨rfl, rfl⟩
  by_cases e : growsP d a.1 = true
  · simp only [if_pos e]
    simp (disch := omega) only [go_sem, Nat.reduceEqDiff, Nat.reduceAdd, ↓reduceIte, get_pushB, get_putB, pickB_t, pickB_f, eqB_t, eqB_f, ltB_t, leB_t, AH.size_push, AH.size_put, AH.ro_push, AH.ro_put, e]
    refine callW_of (New_ok G1' (by omega) d _ (Ints.mono hE hdd) md) ?_
    rintro r G3 ⟨⟨nd, nx, rfl, hod, hox, hne⟩, hE3⟩
    have hr3 := hE3.ro
    have hs3 := hE3.size
    have hbd3 := Own.blk hod _ _ _ rfl
    have hbx3 := Own.blk hox _ _ _ rfl
    simp only at hbd3 hbx3
    have ga := hE3.get _ _ ga
    have g0 := hE3.get _ _ g0
    have hpd := prodL_pos md
    generalize hN : (prodL d).toNat = N at *
    simp only [List.length_replicate] at hod hox ⊢
    simp (disch := omega) only [go_sem, Nat.reduceEqDiff, Nat.reduceAdd, ↓reduceIte, get_pushB, get_putB, pickB_t, pickB_f, eqB_t, eqB_f, ltB_t, leB_t, AH.size_push, AH.size_put, AH.ro_push, AH.ro_put, ga]
    refine Sat_gen ?_
    intro G4 hG4
    have hE4 : Ext G3 G4 := by rw [hG4]; exact (Ext.push _ _).put (Nat.le_refl _) (by simp only [AH.size_push]; omega) _
    have hs4 : G4.size = G3.size + 1 := by rw [hG4]; rfl
    have kt : G4.get G3.size = some [.slice (some ⟨nd, 0, none⟩) d.length 1, .slice (some ⟨nx, 0, none⟩) N 1] := by rw [hG4]; (try simp (disch := omega) only [get_pushB, get_putB, pickB_t, pickB_f, eqB_t, eqB_f, ltB_t, AH.size_push, AH.size_put, AH.ro_push, AH.ro_put])
    have hr4 := hE4.ro
    clear hG4
    have ga := hE4.get _ _ ga
    have g0 := hE4.get _ _ g0
    have hEH := hE.trans (hE3.trans hE4)
    have hpa := prodL_pos ma
    have hox0 : OwnI G1' G4 (.slice (some ⟨nx, 0, none⟩) N 1) (sumI d a.1 a.2 0) := by
      have := hox.ext hE4
      rw [show sumI d a.1 a.2 0 = List.replicate N 0 by rw [← hN]; rfl]
      simpa [OwnI] using this
    have hgl : d.length = a.1.length := by have := e; simp only [growsP, Bool.and_eq_true, decide_eq_true_eq] at this; exact this.1
    refine Sat_loop 3000 (fun k H' V => ∃ (i : Nat) (x7 x8 : Value), i ≤ a.2.length ∧ k = a.2.length - i ∧ Fr nx G4 H' ∧ OwnI G1' H' (.slice (some ⟨nx, 0, none⟩) N 1) (sumI d a.1 a.2 i) ∧ V = [.agg #[.slice pa a.1.length ca, .slice qa a.2.length da], .slice pv d.length cv, .pointer (some ⟨H.size, 0, none⟩), .pointer (some ⟨H.size + 1, 0, none⟩), .int .i64 0, .pointer (some ⟨G3.size, 0, none⟩), x7, x8, .slice qa a.2.length da, .int .i64 a.2.length, .int .i64 i]) a.2.length ⟨0, _, _, by omega, by omega, Fr.refl _ _, hox0, rfl⟩ ?_
    rintro k H' V ⟨i, x7, x8, hi, rfl, hF, ho, rfl⟩ ih
    have ja := hF.get _ _ (by omega) ga
    have jt := hF.get _ _ (by omega) kt
    have hrF := hF.ro
    have hsF := hF.size
    have hEF := hF.ext hEH (by omega)
    have hax' := Ints.mono hEF hax
    simp (disch := omega) only [go_sem, Nat.reduceEqDiff, Nat.reduceAdd, ↓reduceIte, get_pushB, get_putB, pickB_t, pickB_f, eqB_t, eqB_f, ltB_t, leB_t, AH.size_push, AH.size_put, AH.ro_push, AH.ro_put]
    refine Split.mk (fun h1 => ?_) (fun h1 => ?_)
    · have hi2 : i < a.2.length := by omega
      have hlen : (sumI d a.1 a.2 i).length = N := by rw [sumI_len, hN]
      have hlow := (low_at md ma e (n := i) (by omega)).2
      have b1 : aload tb 23 (.pointer (some ⟨G3.size, 1, none⟩)) H'.get = some (.slice (some ⟨nx, 0, none⟩) N 1) := by simp (disch := omega) only [go_sem, Nat.reduceEqDiff, Nat.reduceAdd, ↓reduceIte, get_pushB, get_putB, pickB_t, pickB_f, eqB_t, eqB_f, ltB_t, leB_t, AH.size_push, AH.size_put, AH.ro_push, AH.ro_put, jt]
      simp (disch := omega) only [go_sem, Nat.reduceEqDiff, Nat.reduceAdd, ↓reduceIte, get_pushB, get_putB, pickB_t, pickB_f, eqB_t, eqB_f, ltB_t, leB_t, AH.size_push, AH.size_put, AH.ro_push, AH.ro_put, ja, jt, ixI hax', ldI hax']
      refine ⟨by (repeat' apply And.intro) <;> first | trivial | exact Same.of b1 b1 (by simp [seqV, seq1]), ?_⟩
      refine callW_of (low_ok H' (by omega) d a.1 i _ _ (Ints.mono hEF hdd) (Ints.mono hEF had) hgl md ma (by omega)) ?_
      rintro r H2 ⟨rfl, hE2⟩
      have c1 := aload_ext hE2 b1
      have hr2 := hE2.ro
      have hs2 := hE2.size
      have ho3 := OwnI.ext2 ho hE2
      obtain ⟨hst, ho2, hb1, hb2⟩ := OwnI.set ho3 (lowP d a.1 i) (IntKind.i64.wrap (gi (sumI d a.1 a.2 i) (lowP d a.1 i) + gi a.2 i)) (by omega)
      simp (disch := omega) only [go_sem, Nat.reduceEqDiff, Nat.reduceAdd, ↓reduceIte, get_pushB, get_putB, pickB_t, pickB_f, eqB_t, eqB_f, ltB_t, leB_t, AH.size_push, AH.size_put, AH.ro_push, AH.ro_put, ixI (OwnI.ints ho3), ldI (OwnI.ints ho3), hst]
      refine ⟨by (repeat' apply And.intro) <;> first | trivial | exact Same.of b1 b1 (by simp [seqV, seq1]) | exact Same.of b1 c1 (by simp [seqV, seq1]) | exact Same.of c1 b1 (by simp [seqV, seq1]) | exact Same.of c1 c1 (by simp [seqV, seq1]), ?_⟩
      refine ih _ _ _ ?_ ⟨i + 1, .int .i64 i, _, ?_, rfl, (hF.trans (Fr.of_ext nx hE2)).trans (Fr.put nx _ hb1 _), ho2, rfl⟩
      · omega
      · omega
    · have hiN : i = a.2.length := by omega
      subst hiN
      have j0 := hF.get _ _ (by omega) g0
      have hlen : (sumI d a.1 a.2 a.2.length).length = N := by rw [sumI_len, hN]
      have hod2 : OwnI G1' H' (.slice (some ⟨nd, 0, none⟩) d.length 1) d := Own.fr (hod.ext hE4) hF (fun a n k e => by cases e; exact hne)
      have hT : OwnTD G1' H' (.agg #[.slice (some ⟨nd, 0, none⟩) d.length 1, .slice (some ⟨nx, 0, none⟩) N 1]) (d, sumI d a.1 a.2 a.2.length) := ⟨_, _, rfl, hod2, ho, fun a n k e b m j e2 => by cases e; cases e2; exact fun e => hne e.symm⟩
      simp (disch := omega) only [go_sem, Nat.reduceEqDiff, Nat.reduceAdd, ↓reduceIte, get_pushB, get_putB, pickB_t, pickB_f, eqB_t, eqB_f, ltB_t, leB_t, AH.size_push, AH.size_put, AH.ro_push, AH.ro_put, j0, jt]
      exact ⟨_, rfl, hT.out hE h0 (by omega) _, hEF.put (by omega) (by omega) _⟩
  · simp only [if_neg e]
    have e' : growsP d a.1 = false := by simpa using e
    simp (disch := omega) only [go_sem, Nat.reduceEqDiff, Nat.reduceAdd, ↓reduceIte, get_pushB, get_putB, pickB_t, pickB_f, eqB_t, eqB_f, ltB_t, leB_t, AH.size_push, AH.size_put, AH.ro_push, AH.ro_put, e', abT0, g0]
    exact ⟨_, rfl, OwnTD.none _ _, Ext.put hE (by omega) (by omega) _⟩
theorem RefSum_ok (H : AH) (h0 : H.ro ≤ H.size) (a : Ten) (va : Value) (ha : TenV H va a) (ta : isT a = true) (d : List Int) (vd : Value) (hdd : Ints H vd d) (md : mayP d = true) (e : growsP d a.1 = true) : Runs tb 94 [va, vd] H (fun r H' => OwnTD H H' r (d, sumI d a.1 a.2 a.2.length) ∧ Ext H H') := by
  obtain ⟨ad, ax, rfl, had, hax⟩ := id ha
  obtain ⟨ma, lp, la⟩ := isT_spec ta
  obtain ⟨pv, cv, rfl⟩ := hdd.inv
  have hdl := mayP_spec md
  obtain ⟨pa, ca, rfl⟩ := had.inv
  obtain ⟨qa, da, rfl⟩ := hax.inv
  have hpd := prodL_pos md
  refine Runs_fn (fn := Try.f94) [.cell 4 32] [0, 1, 2, 4, 5, 6, 7] [] 3000 (by kernel_rfl) rfl (by kernel_rfl) (by kernel_rfl) rfl ?_; simp only [pad, argAt]
  simp (disch := omega) only [go_sem, Nat.reduceEqDiff, Nat.reduceAdd, ↓reduceIte, get_pushB, get_putB, pickB_t, pickB_f, eqB_t, eqB_f, ltB_t, leB_t, AH.size_push, AH.size_put, AH.ro_push, AH.ro_put]
  refine callW_gen ?_
  intro G2 hG2
  have hE : Ext H G2 := by rw [hG2]; exact (Ext.push _ _).pushed _
  have hsz2 : G2.size = H.size + 2 := by rw [hG2]; rfl
  have hr2 := hE.ro
  have ga : G2.get H.size = some [.slice pa a.1.length ca, .slice qa a.2.length da] := by rw [hG2]; (try simp (disch := omega) only [get_pushB, get_putB, pickB_t, pickB_f, eqB_t, eqB_f, ltB_t, AH.size_push, AH.size_put, AH.ro_push, AH.ro_put])
  have g0 : G2.get (H.size + 1) = some [.slice none 0 0, .slice none 0 0] := by rw [hG2]; (try simp (disch := omega) only [get_pushB, get_putB, pickB_t, pickB_f, eqB_t, eqB_f, ltB_t, AH.size_push, AH.size_put, AH.ro_push, AH.ro_put])
  clear hG2
  refine callW_of (RefFill_ok G2 (by omega) _ 0 _ (Ints.mono hE hdd) md) ?_
  rintro r G3 ⟨⟨vd, vx, rfl, hod, hox, hne⟩, hE3⟩
  obtain ⟨pd, cd, rfl⟩ := hod.ints.inv
  obtain ⟨nx, rfl⟩ := hox.block (by intro h; have := congrArg List.length h; simp at this; omega)
  generalize hN : (prodL d).toNat = N at *
  simp only [List.length_replicate] at hox hne hod ⊢
  have hr3 := hE3.ro
  have hs3 := hE3.size
  have hbx3 := Own.blk hox _ _ _ rfl
  simp only at hbx3
  have ga := hE3.get _ _ ga
  have g0 := hE3.get _ _ g0
  simp (disch := omega) only [go_sem, Nat.reduceEqDiff, Nat.reduceAdd, ↓reduceIte, get_pushB, get_putB, pickB_t, pickB_f, eqB_t, eqB_f, ltB_t, leB_t, AH.size_push, AH.size_put, AH.ro_push, AH.ro_put]
  refine Sat_gen ?_
  intro G4 hG4
  have hE4 : Ext G3 G4 := by rw [hG4]; exact (Ext.push _ _).put (Nat.le_refl _) (by simp only [AH.size_push]; omega) _
  have hs4 : G4.size = G3.size + 1 := by rw [hG4]; rfl
  have kt : G4.get G3.size = some [.slice pd d.length cd, .slice (some ⟨nx, 0, none⟩) N 1] := by rw [hG4]; (try simp (disch := omega) only [get_pushB, get_putB, pickB_t, pickB_f, eqB_t, eqB_f, ltB_t, AH.size_push, AH.size_put, AH.ro_push, AH.ro_put])
  have hr4 := hE4.ro
  clear hG4
  have ga := hE4.get _ _ ga
  have g0 := hE4.get _ _ g0
  have hEH := hE.trans (hE3.trans hE4)
  have hpa := prodL_pos ma
  have hox0 : OwnI G2 G4 (.slice (some ⟨nx, 0, none⟩) N 1) (sumI d a.1 a.2 0) := by
    have := hox.ext hE4
    rw [show sumI d a.1 a.2 0 = List.replicate N 0 by rw [← hN]; rfl]
    simpa [OwnI] using this
  have hgl : d.length = a.1.length := by have := e; simp only [growsP, Bool.and_eq_true, decide_eq_true_eq] at this; exact this.1
  have hal := mayP_spec ma
  refine Sat_loop 3000 (fun k H' V => ∃ (i : Nat) (x7 : Value), i ≤ a.2.length ∧ k = a.2.length - i ∧ Fr nx G4 H' ∧ OwnI G2 H' (.slice (some ⟨nx, 0, none⟩) N 1) (sumI d a.1 a.2 i) ∧ V = [.agg #[.slice pa a.1.length ca, .slice qa a.2.length da], .slice pv d.length cv, .pointer (some ⟨H.size, 0, none⟩), .pointer (some ⟨H.size + 1, 0, none⟩), .pointer (some ⟨G3.size, 0, none⟩), .int .i64 i, x7]) a.2.length ⟨0, _, by omega, by omega, Fr.refl _ _, hox0, rfl⟩ ?_
  rintro k H' V ⟨i, x7, hi, rfl, hF, ho, rfl⟩ ih
  have ja := hF.get _ _ (by omega) ga
  have jt := hF.get _ _ (by omega) kt
  have hrF := hF.ro
  have hsF := hF.size
  have hEF := hF.ext hEH (by omega)
  simp (disch := omega) only [go_sem, Nat.reduceEqDiff, Nat.reduceAdd, ↓reduceIte, get_pushB, get_putB, pickB_t, pickB_f, eqB_t, eqB_f, ltB_t, leB_t, AH.size_push, AH.size_put, AH.ro_push, AH.ro_put, ja]
  refine Split.mk (fun h1 => ?_) (fun h1 => ?_)
  · have hi2 : i < a.2.length := by omega
    have hlen : (sumI d a.1 a.2 i).length = N := by rw [sumI_len, hN]
    obtain ⟨hwn, hlow⟩ := low_at md ma e (n := i) (by omega)
    have hwl : (whereP a.1 i).length = a.1.length := whereI_len a.1 i _
    simp (disch := omega) only [go_sem, Nat.reduceEqDiff, Nat.reduceAdd, ↓reduceIte, get_pushB, get_putB, pickB_t, pickB_f, eqB_t, eqB_f, ltB_t, leB_t, AH.size_push, AH.size_put, AH.ro_push, AH.ro_put, ja]
    refine callW_of (Where_ok H' (by omega) a.1 i _ (Ints.mono hEF had) ma (by omega)) ?_
    rintro r K1 ⟨how, hK1⟩
    obtain ⟨pw, cw, rfl⟩ := how.ints.inv
    have hrk := hK1.ro
    have hsk := hK1.size
    simp (disch := omega) only [go_sem, Nat.reduceEqDiff, Nat.reduceAdd, ↓reduceIte, get_pushB, get_putB, pickB_t, pickB_f, eqB_t, eqB_f, ltB_t, leB_t, AH.size_push, AH.size_put, AH.ro_push, AH.ro_put]
    refine callW_of (RefNarrow_ok K1 (by omega) d _ _ _ (Ints.mono (hEF.trans hK1) hdd) how.ints (by omega) (by omega)) ?_
    rintro r K2 ⟨hon, hK2⟩
    obtain ⟨pn, cn, rfl⟩ := hon.ints.inv
    have hrk2 := hK2.ro
    have hsk2 := hK2.size
    simp (disch := omega) only [go_sem, Nat.reduceEqDiff, Nat.reduceAdd, ↓reduceIte, get_pushB, get_putB, pickB_t, pickB_f, eqB_t, eqB_f, ltB_t, leB_t, AH.size_push, AH.size_put, AH.ro_push, AH.ro_put]
    have hzl := zeroP_len d (whereP a.1 i) (whereP a.1 i).length
    refine callW_of (At_ok K2 d _ _ _ (Ints.mono (hEF.trans (hK1.trans hK2)) hdd) hon.ints (by omega) (by omega)) ?_
    rintro r K3 ⟨rfl, rfl⟩
    rw [show (whereP a.1 i).length = d.length by omega, ← hlow.1]
    have hax2 := Ints.mono (hEF.trans (hK1.trans hK2)) hax
    have ho3 := OwnI.ext2 ho (hK1.trans hK2)
    have ka := (hK1.trans hK2).get _ _ ja
    have kt2 := (hK1.trans hK2).get _ _ jt
    obtain ⟨hst, ho2, hb1, hb2⟩ := OwnI.set ho3 (lowP d a.1 i) (IntKind.i64.wrap (gi (sumI d a.1 a.2 i) (lowP d a.1 i) + gi a.2 i)) (by omega)
    simp (disch := omega) only [go_sem, Nat.reduceEqDiff, Nat.reduceAdd, ↓reduceIte, get_pushB, get_putB, pickB_t, pickB_f, eqB_t, eqB_f, ltB_t, leB_t, AH.size_push, AH.size_put, AH.ro_push, AH.ro_put, ka, kt2, ixI hax2, ldI hax2, ixI (OwnI.ints ho3), ldI (OwnI.ints ho3), hst]
    refine ih _ _ _ ?_ ⟨i + 1, _, ?_, rfl, (hF.trans (Fr.of_ext nx (hK1.trans hK2))).trans (Fr.put nx _ hb1 _), ho2, rfl⟩
    · omega
    · omega
  · have hiN : i = a.2.length := by omega
    subst hiN
    have j0 := hF.get _ _ (by omega) g0
    have hlen : (sumI d a.1 a.2 a.2.length).length = N := by rw [sumI_len, hN]
    have hod2 : OwnI G2 H' (.slice pd d.length cd) d := Own.fr (hod.ext hE4) hF (fun p q r e => fun e2 => hne _ _ _ e _ _ _ rfl e2.symm)
    have hT : OwnTD G2 H' (.agg #[.slice pd d.length cd, .slice (some ⟨nx, 0, none⟩) N 1]) (d, sumI d a.1 a.2 a.2.length) := ⟨_, _, rfl, hod2, ho, hne⟩
    simp (disch := omega) only [go_sem, Nat.reduceEqDiff, Nat.reduceAdd, ↓reduceIte, get_pushB, get_putB, pickB_t, pickB_f, eqB_t, eqB_f, ltB_t, leB_t, AH.size_push, AH.size_put, AH.ro_push, AH.ro_put, j0, jt]
    exact ⟨hT.out hE h0 (by omega) _, hEF.put (by omega) (by omega) _⟩
theorem sgl12_ok (H : AH) (h0 : H.ro ≤ H.size) (a : Ten) (va : Value) (ha : TenV H va a) (ta : isT a = true) (n : Int) (d : List Int) (vd : Value) (hdd : Ints H vd d) (md : mayP d = true) :
    Runs tb 39 [.int .i64 12, .int .i64 n, vd, va] H (DoPost H (if growsP a.1 d then (d, wideP a.1 d a.2) else ([], [])) (if growsP a.1 d then 0 else 4)) := by
  obtain ⟨ad, ax, rfl, had, hax⟩ := id ha
  obtain ⟨pa, ca, rfl⟩ := had.inv
  obtain ⟨qa, da, rfl⟩ := hax.inv
  refine Runs_fn (fn := Try.f39) [.cell 8 32, .tmp 9] [0, 1, 2, 3, 7, 8, 9, 10] [] 3000 (by kernel_rfl) rfl (by kernel_rfl) (by kernel_rfl) rfl ?_; simp only [pad, argAt]
  simp (disch := omega) only [go_sem, Nat.reduceEqDiff, Nat.reduceAdd, ↓reduceIte, get_pushB, get_putB, pickB_t, pickB_f, eqB_t, eqB_f, ltB_t, leB_t, AH.size_push, AH.size_put, AH.ro_push, AH.ro_put, Int.reduceEq, decide_true, decide_false]
  refine callW_gen ?_
  intro G hG
  have hE : Ext H G := by rw [hG]; exact (Ext.push _ _).pushed _
  have hr := hE.ro
  have hs := hE.size
  have hsz : G.size = H.size + 2 := by rw [hG]; rfl
  have g0 : G.get (H.size + 1) = some [.slice none 0 0, .slice none 0 0] := by rw [hG]; (try simp (disch := omega) only [get_pushB, get_putB, pickB_t, pickB_f, eqB_t, eqB_f, ltB_t, AH.size_push, AH.size_put, AH.ro_push, AH.ro_put])
  clear hG
  refine callW_of (Wide_ok G (by omega) a _ (TenV.mono hE ha) ta d _ (Ints.mono hE hdd) md) ?_
  rintro r G4 ⟨u, rfl, hot, hE4⟩
  obtain ⟨vu, wu, rfl, hu1, hu2, _⟩ := id hot
  obtain ⟨pu, cu, rfl⟩ := hu1.ints.inv
  obtain ⟨pw, cw, rfl⟩ := hu2.ints.inv
  have q0 := hE4.get _ _ g0
  have hr4 := hE4.ro
  have hs4 := hE4.size
  simp (disch := omega) only [go_sem, Nat.reduceEqDiff, Nat.reduceAdd, ↓reduceIte, get_pushB, get_putB, pickB_t, pickB_f, eqB_t, eqB_f, ltB_t, leB_t, AH.size_push, AH.size_put, AH.ro_push, AH.ro_put, q0]
  exact ⟨_, rfl, hot.out hE h0 (by omega) _, (hE.trans hE4).put (by omega) (by omega) _⟩
theorem KindOk12 : KindOk 12 (fun n d l => wideP (l.getD 0 ([], [])).1 d (l.getD 0 ([], [])).2) where
  fill h := by omega
  two n d l h hl := by have := (doOk_form h).2.2.2.2; simp [manyP] at this; omega
  one n d l h hl G u vd h0 hd hu := by
    have hA := (doOk_form h).2.2.1
    have md : mayP d = true := by simpa [namedP] using (formP_spec (doOk_form h).2.2.2.1).2.2.2.2
    have := sgl12_ok G h0 _ u hu (all_getD hA (by omega)) n d vd hd md
    have e : doE (fun n d l => wideP (l.getD 0 ([], [])).1 d (l.getD 0 ([], [])).2) 12 n d l = (if growsP (l.getD 0 ([], [])).1 d then ((d, wideP (l.getD 0 ([], [])).1 d (l.getD 0 ([], [])).2), 0) else (([], []), 4)) := by
      simp only [doE, h, if_true, dimsP, map_getD]
      simp only [Int.reduceEq, or_self, or_false, or_true, false_or, if_true, if_false]
      by_cases hC : growsP (l.getD 0 ([], [])).1 d
      · simp only [if_pos hC]
      · simp only [if_neg hC]
    rw [e]
    split
    · rename_i hc; simp only [if_pos hc] at this; exact this
    · rename_i hc; simp only [if_neg hc] at this; exact this
  ref n d l x h hx G vd vl h0 hd hl := by
    have hA := (doOk_form h).2.2.1
    have hm := (doOk_form h).2.2.2.2
    have hlen : l.length = 1 := by simp [manyP] at hm; omega
    have md : mayP d = true := by simpa [namedP] using (formP_spec (doOk_form h).2.2.2.1).2.2.2.2
    have hx2 : (growsP (l.getD 0 ([], [])).1 d) ∧ x = d := by
      simp only [dimsP, map_getD] at hx
      simp only [Int.reduceEq, or_self, or_false, or_true, false_or, if_true, if_false] at hx
      split at hx
      · rename_i hc; cases hx; exact ⟨hc, rfl⟩
      · cases hx
    obtain ⟨hC, rfl⟩ := hx2
    obtain ⟨pl, cl, rfl⟩ := hl.inv
    have ta := all_getD hA (i := 0) (by omega)
    have hP := Ext.push G [.slice none 0 0, .slice none 0 0]
    have hlP := Tens.mono hP hl
    obtain ⟨u0, hu0, ht0⟩ := ldT0 hl (by omega)
    have hu0 := fun (H' : AH) (hE' : Ext G H') => aload_ext hE' hu0
    refine Runs_fn (fn := Try.f48) [.cell 8 32] [0, 1, 2, 3, 8, 9] [(19, [(5, 1)])] 3000 (by kernel_rfl) rfl (by kernel_rfl) (by kernel_rfl) rfl ?_; simp only [pad, argAt]
    simp (disch := omega) only [go_sem, Nat.reduceEqDiff, Nat.reduceAdd, ↓reduceIte, get_pushB, get_putB, pickB_t, pickB_f, eqB_t, eqB_f, ltB_t, leB_t, AH.size_push, AH.size_put, AH.ro_push, AH.ro_put, Int.reduceEq, decide_true, decide_false, ixT hlP, hu0 _ hP]
    refine callW_gen ?_
    intro G1 hG
    have hE : Ext G G1 := by rw [hG]; exact Ext.push _ _
    have g0 : G1.get G.size = some [.slice none 0 0, .slice none 0 0] := by rw [hG]; (try simp (disch := omega) only [get_pushB, get_putB, pickB_t, pickB_f, eqB_t, eqB_f, ltB_t, AH.size_push, AH.size_put, AH.ro_push, AH.ro_put])
    have hs : G1.size = G.size + 1 := by rw [hG]; rfl
    have hr := hE.ro
    clear hG
    refine callW_of (RefWide_ok G1 (by omega) _ u0 (TenV.mono hE ht0) ta _ _ (Ints.mono hE hd) md hC) ?_
    rintro r H1 ⟨hot, hE1⟩
    obtain ⟨vu, wu, rfl, hu1, hu2, _⟩ := id hot
    obtain ⟨pu, cu, rfl⟩ := hu1.ints.inv
    obtain ⟨pw, cw, rfl⟩ := hu2.ints.inv
    have q0 := hE1.get _ _ g0
    have hr1 := hE1.ro
    have hs1 := hE1.size
    simp (disch := omega) only [go_sem, Nat.reduceEqDiff, Nat.reduceAdd, ↓reduceIte, get_pushB, get_putB, pickB_t, pickB_f, eqB_t, eqB_f, ltB_t, leB_t, AH.size_push, AH.size_put, AH.ro_push, AH.ro_put, q0]
    exact ⟨hot.out hE h0 (by omega) _, (hE.trans hE1).put (Nat.le_refl _) (by omega) _⟩
theorem sgl13_ok (H : AH) (h0 : H.ro ≤ H.size) (a : Ten) (va : Value) (ha : TenV H va a) (ta : isT a = true) (n : Int) (d : List Int) (vd : Value) (hdd : Ints H vd d) (md : mayP d = true) :
    Runs tb 39 [.int .i64 13, .int .i64 n, vd, va] H (DoPost H (if growsP d a.1 then (d, sumI d a.1 a.2 a.2.length) else ([], [])) (if growsP d a.1 then 0 else 4)) := by
  obtain ⟨ad, ax, rfl, had, hax⟩ := id ha
  obtain ⟨pa, ca, rfl⟩ := had.inv
  obtain ⟨qa, da, rfl⟩ := hax.inv
  refine Runs_fn (fn := Try.f39) [.cell 8 32, .tmp 9] [0, 1, 2, 3, 7, 8, 9, 10] [] 3000 (by kernel_rfl) rfl (by kernel_rfl) (by kernel_rfl) rfl ?_; simp only [pad, argAt]
  simp (disch := omega) only [go_sem, Nat.reduceEqDiff, Nat.reduceAdd, ↓reduceIte, get_pushB, get_putB, pickB_t, pickB_f, eqB_t, eqB_f, ltB_t, leB_t, AH.size_push, AH.size_put, AH.ro_push, AH.ro_put, Int.reduceEq, decide_true, decide_false]
  refine callW_gen ?_
  intro G hG
  have hE : Ext H G := by rw [hG]; exact (Ext.push _ _).pushed _
  have hr := hE.ro
  have hs := hE.size
  have hsz : G.size = H.size + 2 := by rw [hG]; rfl
  have g0 : G.get (H.size + 1) = some [.slice none 0 0, .slice none 0 0] := by rw [hG]; (try simp (disch := omega) only [get_pushB, get_putB, pickB_t, pickB_f, eqB_t, eqB_f, ltB_t, AH.size_push, AH.size_put, AH.ro_push, AH.ro_put])
  clear hG
  refine callW_of (Sum_ok G (by omega) a _ (TenV.mono hE ha) ta d _ (Ints.mono hE hdd) md) ?_
  rintro r G4 ⟨u, rfl, hot, hE4⟩
  obtain ⟨vu, wu, rfl, hu1, hu2, _⟩ := id hot
  obtain ⟨pu, cu, rfl⟩ := hu1.ints.inv
  obtain ⟨pw, cw, rfl⟩ := hu2.ints.inv
  have q0 := hE4.get _ _ g0
  have hr4 := hE4.ro
  have hs4 := hE4.size
  simp (disch := omega) only [go_sem, Nat.reduceEqDiff, Nat.reduceAdd, ↓reduceIte, get_pushB, get_putB, pickB_t, pickB_f, eqB_t, eqB_f, ltB_t, leB_t, AH.size_push, AH.size_put, AH.ro_push, AH.ro_put, q0]
  exact ⟨_, rfl, hot.out hE h0 (by omega) _, (hE.trans hE4).put (by omega) (by omega) _⟩
theorem KindOk13 : KindOk 13 (fun n d l => sumI d (l.getD 0 ([], [])).1 (l.getD 0 ([], [])).2 (l.getD 0 ([], [])).2.length) where
  fill h := by omega
  two n d l h hl := by have := (doOk_form h).2.2.2.2; simp [manyP] at this; omega
  one n d l h hl G u vd h0 hd hu := by
    have hA := (doOk_form h).2.2.1
    have md : mayP d = true := by simpa [namedP] using (formP_spec (doOk_form h).2.2.2.1).2.2.2.2
    have := sgl13_ok G h0 _ u hu (all_getD hA (by omega)) n d vd hd md
    have e : doE (fun n d l => sumI d (l.getD 0 ([], [])).1 (l.getD 0 ([], [])).2 (l.getD 0 ([], [])).2.length) 13 n d l = (if growsP d (l.getD 0 ([], [])).1 then ((d, sumI d (l.getD 0 ([], [])).1 (l.getD 0 ([], [])).2 (l.getD 0 ([], [])).2.length), 0) else (([], []), 4)) := by
      simp only [doE, h, if_true, dimsP, map_getD]
      simp only [Int.reduceEq, or_self, or_false, or_true, false_or, if_true, if_false]
      by_cases hC : growsP d (l.getD 0 ([], [])).1
      · simp only [if_pos hC]
      · simp only [if_neg hC]
    rw [e]
    split
    · rename_i hc; simp only [if_pos hc] at this; exact this
    · rename_i hc; simp only [if_neg hc] at this; exact this
  ref n d l x h hx G vd vl h0 hd hl := by
    have hA := (doOk_form h).2.2.1
    have hm := (doOk_form h).2.2.2.2
    have hlen : l.length = 1 := by simp [manyP] at hm; omega
    have md : mayP d = true := by simpa [namedP] using (formP_spec (doOk_form h).2.2.2.1).2.2.2.2
    have hx2 : (growsP d (l.getD 0 ([], [])).1) ∧ x = d := by
      simp only [dimsP, map_getD] at hx
      simp only [Int.reduceEq, or_self, or_false, or_true, false_or, if_true, if_false] at hx
      split at hx
      · rename_i hc; cases hx; exact ⟨hc, rfl⟩
      · cases hx
    obtain ⟨hC, rfl⟩ := hx2
    obtain ⟨pl, cl, rfl⟩ := hl.inv
    have ta := all_getD hA (i := 0) (by omega)
    have hP := Ext.push G [.slice none 0 0, .slice none 0 0]
    have hlP := Tens.mono hP hl
    obtain ⟨u0, hu0, ht0⟩ := ldT0 hl (by omega)
    have hu0 := fun (H' : AH) (hE' : Ext G H') => aload_ext hE' hu0
    refine Runs_fn (fn := Try.f48) [.cell 8 32] [0, 1, 2, 3, 8, 9] [(19, [(5, 1)])] 3000 (by kernel_rfl) rfl (by kernel_rfl) (by kernel_rfl) rfl ?_; simp only [pad, argAt]
    simp (disch := omega) only [go_sem, Nat.reduceEqDiff, Nat.reduceAdd, ↓reduceIte, get_pushB, get_putB, pickB_t, pickB_f, eqB_t, eqB_f, ltB_t, leB_t, AH.size_push, AH.size_put, AH.ro_push, AH.ro_put, Int.reduceEq, decide_true, decide_false, ixT hlP, hu0 _ hP]
    refine callW_gen ?_
    intro G1 hG
    have hE : Ext G G1 := by rw [hG]; exact Ext.push _ _
    have g0 : G1.get G.size = some [.slice none 0 0, .slice none 0 0] := by rw [hG]; (try simp (disch := omega) only [get_pushB, get_putB, pickB_t, pickB_f, eqB_t, eqB_f, ltB_t, AH.size_push, AH.size_put, AH.ro_push, AH.ro_put])
    have hs : G1.size = G.size + 1 := by rw [hG]; rfl
    have hr := hE.ro
    clear hG
    refine callW_of (RefSum_ok G1 (by omega) _ u0 (TenV.mono hE ht0) ta _ _ (Ints.mono hE hd) md hC) ?_
    rintro r H1 ⟨hot, hE1⟩
    obtain ⟨vu, wu, rfl, hu1, hu2, _⟩ := id hot
    obtain ⟨pu, cu, rfl⟩ := hu1.ints.inv
    obtain ⟨pw, cw, rfl⟩ := hu2.ints.inv
    have q0 := hE1.get _ _ g0
    have hr1 := hE1.ro
    have hs1 := hE1.size
    simp (disch := omega) only [go_sem, Nat.reduceEqDiff, Nat.reduceAdd, ↓reduceIte, get_pushB, get_putB, pickB_t, pickB_f, eqB_t, eqB_f, ltB_t, leB_t, AH.size_push, AH.size_put, AH.ro_push, AH.ro_put, q0]
    exact ⟨hot.out hE h0 (by omega) _, (hE.trans hE1).put (Nat.le_refl _) (by omega) _⟩
end Go.Proofs.K
