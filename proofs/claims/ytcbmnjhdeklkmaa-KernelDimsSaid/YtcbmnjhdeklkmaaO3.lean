/- Rows and columns: turn, mat; other dims: shape. -/
import Derived.Test.YtcbmnjhdeklkmaaO2
set_option linter.unusedVariables false
set_option maxRecDepth 8000
set_option maxHeartbeats 4000000
set_option linter.unusedSimpArgs false
namespace Go.Proofs.K
open Go Go.Ab
def iter {α : Type} (f : Nat → α → α) : Nat → α → α
  | 0, x => x
  | n + 1, x => f n (iter f n x)
theorem iter_inv {α : Type} (P : α → Prop) (f : Nat → α → α) (hf : ∀ n x, P x → P (f n x)) : ∀ n x, P x → P (iter f n x)
  | 0, x, h => h
  | n + 1, x, h => hf n _ (iter_inv P f hf n x h)
def turnC (R C : Nat) (l : List Int) (i : Nat) : Nat → List Int → List Int := fun k L => L.set (k * R + i) (gi l ((i : Int) * C + k))
def turnR (R C : Nat) (l : List Int) : Nat → List Int → List Int := fun i L => iter (turnC R C l i) C L
def turnP (R C : Nat) (l : List Int) : List Int := iter (turnR R C l) R (List.replicate (R * C) 0)
theorem turnC_len (R C : Nat) (l : List Int) (i n : Nat) (L : List Int) : (iter (turnC R C l i) n L).length = L.length :=
  iter_inv (fun x => x.length = L.length) _ (fun n x h => by simp [turnC, h]) n L rfl
theorem turnR_len (R C : Nat) (l : List Int) (n : Nat) (L : List Int) : (iter (turnR R C l) n L).length = L.length :=
  iter_inv (fun x => x.length = L.length) _ (fun n x h => by simp [turnR, turnC_len, h]) n L rfl
theorem cell_bd {k R i C : Nat} (hk : k < C) (hi : i < R) : k * R + i < R * C := by
  have h1 : (k + 1) * R ≤ C * R := Nat.mul_le_mul_right _ hk
  rw [Nat.succ_mul, Nat.mul_comm C R] at h1
  omega
theorem two_dims {d : List Int} (h : mayP d = true) (e : d.length = 2) : ∃ r c : Nat, d = [(r : Int), (c : Int)] ∧ (1 ≤ r ∧ r ≤ 8) ∧ (1 ≤ c ∧ c ≤ 8) ∧ prodL d = (r * c : Nat) ∧ gi d 0 = r ∧ gi d 1 = c := by
  obtain ⟨_, _, h3, _⟩ := mayP_spec h
  match d, e with
  | [x, y], _ =>
    have hx := h3 x (by simp)
    have hy := h3 y (by simp)
    refine ⟨x.toNat, y.toNat, ?_, by omega, by omega, ?_, ?_, ?_⟩
    · rw [Int.toNat_of_nonneg (by omega), Int.toNat_of_nonneg (by omega)]
    · rw [prodL_2 x y hx hy, Int.natCast_mul, Int.toNat_of_nonneg (by omega), Int.toNat_of_nonneg (by omega)]
    · simp [gi]; omega
    · simp [gi]; omega
theorem Turn_ok (H : AH) (h0 : H.ro ≤ H.size) (a : Ten) (va : Value) (ha : TenV H va a) (ta : isT a = true) : Runs tb 72 [va] H (DoPost H (if a.1.length = 2 then ([gi a.1 1, gi a.1 0], turnP (gi a.1 0).toNat (gi a.1 1).toNat a.2) else ([], [])) (if a.1.length = 2 then 0 else 4)) := by
  obtain ⟨ad, ax, rfl, had, hax⟩ := id ha
  obtain ⟨ma, lp, la⟩ := isT_spec ta
  have hal := (mayP_spec ma).2.1
  obtain ⟨pa, ca, rfl⟩ := had.inv
  obtain ⟨qa, da, rfl⟩ := hax.inv
  refine Runs_fn (fn := Try.f72) [.cell 2 32, .tmp 3] [0, 1, 2, 3, 4, 5, 6, 7, 8, 32, 33, 36, 37] [] 3000 (by kernel_rfl) rfl (by kernel_rfl) (by kernel_rfl) rfl ?_; simp only [pad, argAt]
  simp (disch := omega) only [go_sem, Nat.reduceEqDiff, Nat.reduceAdd, ↓reduceIte, get_pushB, get_putB, pickB_t, pickB_f, eqB_t, eqB_f, ltB_t, leB_t, AH.size_push, AH.size_put, AH.ro_push, AH.ro_put]
  refine callW_gen ?_
  intro G hG
  have hE : Ext H G := by rw [hG]; exact (Ext.push _ _).pushed _
  have hr := hE.ro
  have hs := hE.size
  have ga : G.get H.size = some [.slice pa a.1.length ca, .slice qa a.2.length da] := by rw [hG]; (try simp (disch := omega) only [get_pushB, get_putB, pickB_t, pickB_f, eqB_t, eqB_f, ltB_t, AH.size_push, AH.size_put, AH.ro_push, AH.ro_put])
  have g0 : G.get (H.size + 1) = some [.slice none 0 0, .slice none 0 0] := by rw [hG]; (try simp (disch := omega) only [get_pushB, get_putB, pickB_t, pickB_f, eqB_t, eqB_f, ltB_t, AH.size_push, AH.size_put, AH.ro_push, AH.ro_put])
  have hsz : G.size = H.size + 2 := by rw [hG]; rfl
  clear hG
  refine callW_of (Is_ok G a _ (TenV.mono hE ha)) ?_
  rintro r G1 ⟨rfl, hE1⟩
  have hr1 := hE1.ro
  have hs1 := hE1.size
  have ga := hE1.get _ _ ga
  have g0 := hE1.get _ _ g0
  have hE := hE.trans hE1
  have had1 := Ints.mono hE had
  simp (disch := omega) only [go_sem, Nat.reduceEqDiff, Nat.reduceAdd, ↓reduceIte, get_pushB, get_putB, pickB_t, pickB_f, eqB_t, eqB_f, ltB_t, leB_t, AH.size_push, AH.size_put, AH.ro_push, AH.ro_put, ta, ga]
  by_cases e : a.1.length = 2
  · simp only [if_pos e]
    refine Split.mk (fun h => absurd e (by omega)) (fun _ => ?_)
    obtain ⟨rn, cn, hd, hrn, hcn, hpr, hg0, hg1⟩ := two_dims ma e
    simp only [hg0, hg1, Int.toNat_natCast]
    have hal2 : a.2.length = rn * cn := by rw [la, hpr, Int.toNat_natCast]
    simp (disch := omega) only [go_sem, Nat.reduceEqDiff, Nat.reduceAdd, ↓reduceIte, get_pushB, get_putB, pickB_t, pickB_f, eqB_t, eqB_f, ltB_t, leB_t, AH.size_push, AH.size_put, AH.ro_push, AH.ro_put, ga, ixI had1, ldI had1, hg0, hg1, bslice_2 stI (.int .i64 cn) (.int .i64 rn) rfl rfl]
    refine callW_gen ?_
    intro G2 hG2
    have hE2 : Ext G1 G2 := by rw [hG2]; exact Ext.push _ _
    have hsz2 : G2.size = G1.size + 1 := by rw [hG2]; rfl
    have hr2 := hE2.ro
    have hdd : Ints G2 (.slice (some ⟨G1.size, 0, none⟩) 2 1) [(cn : Int), (rn : Int)] := (show OwnI H G2 _ [(cn : Int), (rn : Int)] from Own.mk G1.size 2 [.int .i64 cn, .int .i64 rn] (by omega) h0 (by omega) (by rw [hG2]; (try simp (disch := omega) only [get_pushB, get_putB, pickB_t, pickB_f, eqB_t, eqB_f, ltB_t, AH.size_push, AH.size_put, AH.ro_push, AH.ro_put])) rfl (by omega)).ints
    clear hG2
    have ga := hE2.get _ _ ga
    have g0 := hE2.get _ _ g0
    have hE := hE.trans hE2
    have hmn : mayP [(cn : Int), (rn : Int)] = true := mayP_two (by omega) (by omega)
    have hpn : (prodL [(cn : Int), (rn : Int)]).toNat = rn * cn := by rw [prodL_2 _ _ (by omega) (by omega), ← Int.natCast_mul, Int.toNat_natCast, Nat.mul_comm]
    refine callW_of (New_ok G2 (by omega) _ _ hdd hmn) ?_
    rintro r G3 ⟨⟨nd, nx, rfl, hod, hox, hne⟩, hE3⟩
    rw [hpn] at hox ⊢
    have hr3 := hE3.ro
    have hs3 := hE3.size
    have hbd3 := Own.blk hod _ _ _ rfl
    have hbx3 := Own.blk hox _ _ _ rfl
    simp only at hbd3 hbx3
    have ga := hE3.get _ _ ga
    have g0 := hE3.get _ _ g0
    simp only [List.length_replicate] at hox ⊢
    simp (disch := omega) only [go_sem, Nat.reduceEqDiff, Nat.reduceAdd, ↓reduceIte, get_pushB, get_putB, pickB_t, pickB_f, eqB_t, eqB_f, ltB_t, leB_t, AH.size_push, AH.size_put, AH.ro_push, AH.ro_put]
    refine Sat_gen ?_
    intro G4 hG4
    have hE4 : Ext G3 G4 := by rw [hG4]; exact (Ext.push _ _).put (Nat.le_refl _) (by simp only [AH.size_push]; omega) _
    have hs4 : G4.size = G3.size + 1 := by rw [hG4]; rfl
    have kt : G4.get G3.size = some [.slice (some ⟨nd, 0, none⟩) 2 1, .slice (some ⟨nx, 0, none⟩) (rn * cn) 1] := by rw [hG4]; (try simp (disch := omega) only [get_pushB, get_putB, pickB_t, pickB_f, eqB_t, eqB_f, ltB_t, AH.size_push, AH.size_put, AH.ro_push, AH.ro_put]); rfl
    have hr4 := hE4.ro
    clear hG4
    have ga := hE4.get _ _ ga
    have g0 := hE4.get _ _ g0
    have hEH := hE.trans (hE3.trans hE4)
    have hN : rn * cn ≤ 64 := Nat.mul_le_mul hrn.2 hcn.2
    refine Sat_loop 3000 (fun z H' V => ∃ (i : Nat) (x7 x8 x36 x37 : Value), i ≤ rn ∧ z = rn - i ∧ Fr nx G4 H' ∧ OwnI G2 H' (.slice (some ⟨nx, 0, none⟩) (rn * cn) 1) (iter (turnR rn cn a.2) i (List.replicate (rn * cn) 0)) ∧ V = [.agg #[.slice pa a.1.length ca, .slice qa a.2.length da], .pointer (some ⟨H.size, 0, none⟩), .pointer (some ⟨H.size + 1, 0, none⟩), .int .i64 0, .int .i64 rn, .int .i64 cn, .pointer (some ⟨G3.size, 0, none⟩), x7, x8, .int .i64 rn, .int .i64 i, x36, x37]) rn ⟨0, _, _, _, _, by omega, by omega, Fr.refl _ _, hox.ext hE4, rfl⟩ ?_
    rintro z H' V ⟨i, x7, x8, x36, x37, hi, rfl, hF, ho, rfl⟩ ih
    simp (disch := omega) only [go_sem, Nat.reduceEqDiff, Nat.reduceAdd, ↓reduceIte, get_pushB, get_putB, pickB_t, pickB_f, eqB_t, eqB_f, ltB_t, leB_t, AH.size_push, AH.size_put, AH.ro_push, AH.ro_put]
    refine Split.mk (fun h1 => ?_) (fun h1 => ?_)
    · have hi2 : i < rn := by omega
      simp (disch := omega) only [go_sem, Nat.reduceEqDiff, Nat.reduceAdd, ↓reduceIte, get_pushB, get_putB, pickB_t, pickB_f, eqB_t, eqB_f, ltB_t, leB_t, AH.size_push, AH.size_put, AH.ro_push, AH.ro_put]
      refine Sat_loop 3000 (fun z H2 V => ∃ (k : Nat) (x8 : Value), k ≤ cn ∧ z = cn - k ∧ Fr nx G4 H2 ∧ OwnI G2 H2 (.slice (some ⟨nx, 0, none⟩) (rn * cn) 1) (iter (turnC rn cn a.2 i) k (iter (turnR rn cn a.2) i (List.replicate (rn * cn) 0))) ∧ V = [.agg #[.slice pa a.1.length ca, .slice qa a.2.length da], .pointer (some ⟨H.size, 0, none⟩), .pointer (some ⟨H.size + 1, 0, none⟩), .int .i64 0, .int .i64 rn, .int .i64 cn, .pointer (some ⟨G3.size, 0, none⟩), .int .i64 i, x8, .int .i64 rn, .int .i64 i, .int .i64 cn, .int .i64 k]) cn ⟨0, _, by omega, by omega, hF, ho, rfl⟩ ?_
      clear ho hF
      rintro z H2 V ⟨k, x8, hk, rfl, hF, ho, rfl⟩ ih2
      have ja := hF.get _ _ (by omega) ga
      have jt := hF.get _ _ (by omega) kt
      have hEF := hF.ext hEH (by omega)
      have hax' := Ints.mono hEF hax
      have hlen : (iter (turnC rn cn a.2 i) k (iter (turnR rn cn a.2) i (List.replicate (rn * cn) 0))).length = rn * cn := by rw [turnC_len, turnR_len, List.length_replicate]
      generalize hL : iter (turnC rn cn a.2 i) k (iter (turnR rn cn a.2) i (List.replicate (rn * cn) 0)) = L at *
      simp (disch := omega) only [go_sem, Nat.reduceEqDiff, Nat.reduceAdd, ↓reduceIte, get_pushB, get_putB, pickB_t, pickB_f, eqB_t, eqB_f, ltB_t, leB_t, AH.size_push, AH.size_put, AH.ro_push, AH.ro_put]
      refine Split.mk (fun h2 => ?_) (fun h2 => ?_)
      · have hk2 : k < cn := by omega
        have b1 := cell_bd hk2 hi2
        have b2 := cell_bd hi2 hk2
        have c1 : ((k * rn : Nat) : Int) = (k : Int) * rn := Int.natCast_mul ..
        have c2 : ((i * cn : Nat) : Int) = (i : Int) * cn := Int.natCast_mul ..
        have c3 : ((rn * cn : Nat) : Int) = (rn : Int) * cn := Int.natCast_mul ..
        have c4 : cn * rn = rn * cn := Nat.mul_comm ..
        obtain ⟨hst, ho2, hb1, hb2⟩ := ho.set ((k : Int) * rn + i) (gi a.2 ((i : Int) * cn + k)) (by omega)
        simp (disch := omega) only [go_sem, Nat.reduceEqDiff, Nat.reduceAdd, ↓reduceIte, get_pushB, get_putB, pickB_t, pickB_f, eqB_t, eqB_f, ltB_t, leB_t, AH.size_push, AH.size_put, AH.ro_push, AH.ro_put, ja, jt, ixI hax', ldI hax', ixI ho.ints, hst]
        refine ih2 _ _ _ ?_ ⟨k + 1, .int .i64 k, ?_, rfl, hF.trans (Fr.put nx _ hb1 _), ?_, rfl⟩
        · omega
        · omega
        · have e1 : ((k : Int) * rn + i).toNat = k * rn + i := by omega
          simp only [iter, hL]
          rw [e1] at ho2 ⊢
          exact ho2
      · have hkc : k = cn := by omega
        subst hkc
        subst hL
        simp (disch := omega) only [go_sem, Nat.reduceEqDiff, Nat.reduceAdd, ↓reduceIte, get_pushB, get_putB, pickB_t, pickB_f, eqB_t, eqB_f, ltB_t, leB_t, AH.size_push, AH.size_put, AH.ro_push, AH.ro_put]
        refine ih _ _ _ ?_ ⟨i + 1, _, _, _, _, ?_, rfl, hF, ho, rfl⟩
        · omega
        · omega
    · have hiN : i = rn := by omega
      subst hiN
      have jt := hF.get _ _ (by omega) kt
      have j0 := hF.get _ _ (by omega) g0
      have hrF := hF.ro
      have hsF := hF.size
      have hEF := hF.ext hEH (by omega)
      have hlen : (turnP i cn a.2).length = i * cn := by rw [turnP, turnR_len, List.length_replicate]
      have hod2 : OwnI G2 H' (.slice (some ⟨nd, 0, none⟩) 2 1) [(cn : Int), (i : Int)] := Own.fr (hod.ext hE4) hF (fun a n k e => by cases e; exact hne)
      have hT : OwnTD G2 H' (.agg #[.slice (some ⟨nd, 0, none⟩) 2 1, .slice (some ⟨nx, 0, none⟩) (i * cn) 1]) ([(cn : Int), (i : Int)], turnP i cn a.2) := ⟨_, _, rfl, hod2, ho, fun a n k e b m j e2 => by cases e; cases e2; exact fun e => hne e.symm⟩
      simp (disch := omega) only [go_sem, Nat.reduceEqDiff, Nat.reduceAdd, ↓reduceIte, get_pushB, get_putB, pickB_t, pickB_f, eqB_t, eqB_f, ltB_t, leB_t, AH.size_push, AH.size_put, AH.ro_push, AH.ro_put, j0, jt]
      exact ⟨_, rfl, hT.out hE h0 (by omega) _, hEF.put (by omega) (by omega) _⟩
  · simp only [if_neg e]
    refine Split.mk (fun _ => ?_) (fun h => absurd e (by omega))
    simp (disch := omega) only [go_sem, Nat.reduceEqDiff, Nat.reduceAdd, ↓reduceIte, get_pushB, get_putB, pickB_t, pickB_f, eqB_t, eqB_f, ltB_t, leB_t, AH.size_push, AH.size_put, AH.ro_push, AH.ro_put, ga, g0, abT0]
    exact ⟨_, rfl, OwnTD.none _ _, Ext.put hE (by omega) (by omega) _⟩
theorem RefTurn_ok (H : AH) (h0 : H.ro ≤ H.size) (a : Ten) (va : Value) (ha : TenV H va a) (ta : isT a = true) (e : a.1.length = 2) : Runs tb 92 [va] H (fun r H' => OwnTD H H' r ([gi a.1 1, gi a.1 0], turnP (gi a.1 0).toNat (gi a.1 1).toNat a.2) ∧ Ext H H') := by
  obtain ⟨ad, ax, rfl, had, hax⟩ := id ha
  obtain ⟨ma, lp, la⟩ := isT_spec ta
  have hal := (mayP_spec ma).2.1
  obtain ⟨pa, ca, rfl⟩ := had.inv
  obtain ⟨qa, da, rfl⟩ := hax.inv
  obtain ⟨rn, cn, hd, hrn, hcn, hpr, hg0, hg1⟩ := two_dims ma e
  simp only [hg0, hg1, Int.toNat_natCast]
  have hal2 : a.2.length = rn * cn := by rw [la, hpr, Int.toNat_natCast]
  have hP : Ext H ((H.push [.slice pa a.1.length ca, .slice qa a.2.length da]).push [.slice none 0 0, .slice none 0 0]) := (Ext.push _ _).pushed _
  have hadP := Ints.mono hP had
  refine Runs_fn (fn := Try.f92) [.cell 2 32] [0, 1, 2, 3, 4, 5] [] 3000 (by kernel_rfl) rfl (by kernel_rfl) (by kernel_rfl) rfl ?_; simp only [pad, argAt]
  simp (disch := omega) only [go_sem, Nat.reduceEqDiff, Nat.reduceAdd, ↓reduceIte, get_pushB, get_putB, pickB_t, pickB_f, eqB_t, eqB_f, ltB_t, leB_t, AH.size_push, AH.size_put, AH.ro_push, AH.ro_put, ixI hadP, ldI hadP, hg0, hg1, bslice_2 stI (.int .i64 cn) (.int .i64 rn) rfl rfl]
  refine callW_gen ?_
  intro G2 hG2
  have hE : Ext H G2 := by rw [hG2]; exact ((Ext.push _ _).pushed _).pushed _
  have hsz2 : G2.size = H.size + 3 := by rw [hG2]; rfl
  have hr2 := hE.ro
  have ga : G2.get H.size = some [.slice pa a.1.length ca, .slice qa a.2.length da] := by rw [hG2]; (try simp (disch := omega) only [get_pushB, get_putB, pickB_t, pickB_f, eqB_t, eqB_f, ltB_t, AH.size_push, AH.size_put, AH.ro_push, AH.ro_put])
  have g0 : G2.get (H.size + 1) = some [.slice none 0 0, .slice none 0 0] := by rw [hG2]; (try simp (disch := omega) only [get_pushB, get_putB, pickB_t, pickB_f, eqB_t, eqB_f, ltB_t, AH.size_push, AH.size_put, AH.ro_push, AH.ro_put])
  have hdd : Ints G2 (.slice (some ⟨H.size + 1 + 1, 0, none⟩) 2 1) [(cn : Int), (rn : Int)] := (show OwnI H G2 _ [(cn : Int), (rn : Int)] from Own.mk (H.size + 1 + 1) 2 [.int .i64 cn, .int .i64 rn] (by omega) h0 (by omega) (by rw [hG2]; (try simp (disch := omega) only [get_pushB, get_putB, pickB_t, pickB_f, eqB_t, eqB_f, ltB_t, AH.size_push, AH.size_put, AH.ro_push, AH.ro_put])) rfl (by omega)).ints
  clear hG2
  have hmn : mayP [(cn : Int), (rn : Int)] = true := mayP_two (by omega) (by omega)
  have hpn : (prodL [(cn : Int), (rn : Int)]).toNat = rn * cn := by rw [prodL_2 _ _ (by omega) (by omega), ← Int.natCast_mul, Int.toNat_natCast, Nat.mul_comm]
  have hNp : 1 ≤ rn * cn := Nat.mul_le_mul hrn.1 hcn.1
  refine callW_of (RefFill_ok G2 (by omega) _ 0 _ hdd hmn) ?_
  rintro r G3 ⟨⟨vd, vx, rfl, hod, hox, hne⟩, hE3⟩
  rw [hpn] at hox
  obtain ⟨pd, cd, rfl⟩ := hod.ints.inv
  obtain ⟨nx, rfl⟩ := hox.block (by intro h; have := congrArg List.length h; simp at this; omega)
  simp only [List.length_replicate, List.length_cons, List.length_nil] at hox hne hod ⊢
  have hr3 := hE3.ro
  have hs3 := hE3.size
  have hbx3 := Own.blk hox _ _ _ rfl
  simp only at hbx3
  have ga := hE3.get _ _ ga
  have g0 := hE3.get _ _ g0
  simp (disch := omega) only [go_sem, Nat.reduceEqDiff, Nat.reduceAdd, ↓reduceIte, get_pushB, get_putB, pickB_t, pickB_f, eqB_t, eqB_f, ltB_t, leB_t, AH.size_push, AH.size_put, AH.ro_push, AH.ro_put]
  refine Sat_gen ?_
  intro G4 hG4
  have hE4 : Ext G3 G4 := by rw [hG4]; exact (Ext.push _ _).put (Nat.le_refl _) (by simp only [AH.size_push]; omega) _
  have hs4 : G4.size = G3.size + 1 := by rw [hG4]; rfl
  have kt : G4.get G3.size = some [.slice pd 2 cd, .slice (some ⟨nx, 0, none⟩) (rn * cn) 1] := by rw [hG4]; (try simp (disch := omega) only [get_pushB, get_putB, pickB_t, pickB_f, eqB_t, eqB_f, ltB_t, AH.size_push, AH.size_put, AH.ro_push, AH.ro_put])
  have hr4 := hE4.ro
  clear hG4
  have ga := hE4.get _ _ ga
  have g0 := hE4.get _ _ g0
  have hEH := hE.trans (hE3.trans hE4)
  have hN : rn * cn ≤ 64 := Nat.mul_le_mul hrn.2 hcn.2
  refine Sat_loop 3000 (fun z H' V => ∃ (i : Nat) (x8 : Value), i ≤ rn ∧ z = rn - i ∧ Fr nx G4 H' ∧ OwnI G2 H' (.slice (some ⟨nx, 0, none⟩) (rn * cn) 1) (iter (turnR rn cn a.2) i (List.replicate (rn * cn) 0)) ∧ V = [.agg #[.slice pa a.1.length ca, .slice qa a.2.length da], .pointer (some ⟨H.size, 0, none⟩), .pointer (some ⟨H.size + 1, 0, none⟩), .pointer (some ⟨G3.size, 0, none⟩), .int .i64 i, x8]) rn ⟨0, _, by omega, by omega, Fr.refl _ _, hox.ext hE4, rfl⟩ ?_
  rintro z H' V ⟨i, x8, hi, rfl, hF, ho, rfl⟩ ih
  have ja := hF.get _ _ (by omega) ga
  have hEF := hF.ext hEH (by omega)
  have had' := Ints.mono hEF had
  simp (disch := omega) only [go_sem, Nat.reduceEqDiff, Nat.reduceAdd, ↓reduceIte, get_pushB, get_putB, pickB_t, pickB_f, eqB_t, eqB_f, ltB_t, leB_t, AH.size_push, AH.size_put, AH.ro_push, AH.ro_put, ja, ixI had', ldI had', hg0, hg1]
  refine Split.mk (fun h1 => ?_) (fun h1 => ?_)
  · have hi2 : i < rn := by omega
    simp (disch := omega) only [go_sem, Nat.reduceEqDiff, Nat.reduceAdd, ↓reduceIte, get_pushB, get_putB, pickB_t, pickB_f, eqB_t, eqB_f, ltB_t, leB_t, AH.size_push, AH.size_put, AH.ro_push, AH.ro_put]
    refine Sat_loop 3000 (fun z H2 V => ∃ (k : Nat), k ≤ cn ∧ z = cn - k ∧ Fr nx G4 H2 ∧ OwnI G2 H2 (.slice (some ⟨nx, 0, none⟩) (rn * cn) 1) (iter (turnC rn cn a.2 i) k (iter (turnR rn cn a.2) i (List.replicate (rn * cn) 0))) ∧ V = [.agg #[.slice pa a.1.length ca, .slice qa a.2.length da], .pointer (some ⟨H.size, 0, none⟩), .pointer (some ⟨H.size + 1, 0, none⟩), .pointer (some ⟨G3.size, 0, none⟩), .int .i64 i, .int .i64 k]) cn ⟨0, by omega, by omega, hF, ho, rfl⟩ ?_
    clear ho hF hEF ja had'
    rintro z H2 V ⟨k, hk, rfl, hF, ho, rfl⟩ ih2
    have ja := hF.get _ _ (by omega) ga
    have jt := hF.get _ _ (by omega) kt
    have hEF := hF.ext hEH (by omega)
    have hax' := Ints.mono hEF hax
    have had' := Ints.mono hEF had
    have hlen : (iter (turnC rn cn a.2 i) k (iter (turnR rn cn a.2) i (List.replicate (rn * cn) 0))).length = rn * cn := by rw [turnC_len, turnR_len, List.length_replicate]
    generalize hL : iter (turnC rn cn a.2 i) k (iter (turnR rn cn a.2) i (List.replicate (rn * cn) 0)) = L at *
    simp (disch := omega) only [go_sem, Nat.reduceEqDiff, Nat.reduceAdd, ↓reduceIte, get_pushB, get_putB, pickB_t, pickB_f, eqB_t, eqB_f, ltB_t, leB_t, AH.size_push, AH.size_put, AH.ro_push, AH.ro_put, ja, ixI had', ldI had', hg0, hg1]
    refine Split.mk (fun h2 => ?_) (fun h2 => ?_)
    · have hk2 : k < cn := by omega
      have b1 := cell_bd hk2 hi2
      have b2 := cell_bd hi2 hk2
      have c1 : ((k * rn : Nat) : Int) = (k : Int) * rn := Int.natCast_mul ..
      have c2 : ((i * cn : Nat) : Int) = (i : Int) * cn := Int.natCast_mul ..
      have c3 : ((rn * cn : Nat) : Int) = (rn : Int) * cn := Int.natCast_mul ..
      have c4 : cn * rn = rn * cn := Nat.mul_comm ..
      obtain ⟨hst, ho2, hb1, hb2⟩ := ho.set ((k : Int) * rn + i) (gi a.2 ((i : Int) * cn + k)) (by omega)
      simp (disch := omega) only [go_sem, Nat.reduceEqDiff, Nat.reduceAdd, ↓reduceIte, get_pushB, get_putB, pickB_t, pickB_f, eqB_t, eqB_f, ltB_t, leB_t, AH.size_push, AH.size_put, AH.ro_push, AH.ro_put, ja, jt, ixI had', ldI had', hg0, hg1, ixI hax', ldI hax', ixI ho.ints, hst]
      refine ih2 _ _ _ ?_ ⟨k + 1, ?_, rfl, hF.trans (Fr.put nx _ hb1 _), ?_, rfl⟩
      · omega
      · omega
      · have e1 : ((k : Int) * rn + i).toNat = k * rn + i := by omega
        simp only [iter, hL]
        rw [e1] at ho2 ⊢
        exact ho2
    · have hkc : k = cn := by omega
      subst hkc
      subst hL
      simp (disch := omega) only [go_sem, Nat.reduceEqDiff, Nat.reduceAdd, ↓reduceIte, get_pushB, get_putB, pickB_t, pickB_f, eqB_t, eqB_f, ltB_t, leB_t, AH.size_push, AH.size_put, AH.ro_push, AH.ro_put]
      refine ih _ _ _ ?_ ⟨i + 1, _, ?_, rfl, hF, ho, rfl⟩
      · omega
      · omega
  · have hiN : i = rn := by omega
    subst hiN
    have jt := hF.get _ _ (by omega) kt
    have j0 := hF.get _ _ (by omega) g0
    have hrF := hF.ro
    have hsF := hF.size
    have hlen : (turnP i cn a.2).length = i * cn := by rw [turnP, turnR_len, List.length_replicate]
    have hod2 : OwnI G2 H' (.slice pd 2 cd) [(cn : Int), (i : Int)] := Own.fr (hod.ext hE4) hF (fun p q r e => fun e2 => hne _ _ _ e _ _ _ rfl e2.symm)
    have hT : OwnTD G2 H' (.agg #[.slice pd 2 cd, .slice (some ⟨nx, 0, none⟩) (i * cn) 1]) ([(cn : Int), (i : Int)], turnP i cn a.2) := ⟨_, _, rfl, hod2, ho, hne⟩
    simp (disch := omega) only [go_sem, Nat.reduceEqDiff, Nat.reduceAdd, ↓reduceIte, get_pushB, get_putB, pickB_t, pickB_f, eqB_t, eqB_f, ltB_t, leB_t, AH.size_push, AH.size_put, AH.ro_push, AH.ro_put, j0, jt]
    exact ⟨hT.out hE h0 (by omega) _, hEF.put (by omega) (by omega) _⟩
end Go.Proofs.K
set_option linter.unusedVariables false
set_option maxRecDepth 8000
set_option maxHeartbeats 4000000
set_option linter.unusedSimpArgs false
namespace Go.Proofs.K
open Go Go.Ab
def matD (M C : Nat) (la lb : List Int) (i k : Nat) : Nat → Int → Int := fun m n => IntKind.i64.wrap (n + IntKind.i64.wrap (gi la ((i : Int) * M + m) * gi lb ((m : Int) * C + k)))
def matC (M C : Nat) (la lb : List Int) (i : Nat) : Nat → List Int → List Int := fun k L => L.set (i * C + k) (iter (matD M C la lb i k) M 0)
def matR (M C : Nat) (la lb : List Int) : Nat → List Int → List Int := fun i L => iter (matC M C la lb i) C L
def matP (R M C : Nat) (la lb : List Int) : List Int := iter (matR M C la lb) R (List.replicate (R * C) 0)
theorem matC_len (M C : Nat) (la lb : List Int) (i n : Nat) (L : List Int) : (iter (matC M C la lb i) n L).length = L.length :=
  iter_inv (fun x => x.length = L.length) _ (fun n x h => by simp [matC, h]) n L rfl
theorem matR_len (M C : Nat) (la lb : List Int) (n : Nat) (L : List Int) : (iter (matR M C la lb) n L).length = L.length :=
  iter_inv (fun x => x.length = L.length) _ (fun n x h => by simp [matR, matC_len, h]) n L rfl
theorem matC_zero (M C : Nat) (la lb : List Int) (i : Nat) (L : List Int) (h : ∀ q, i * C ≤ q → L.getD q 0 = 0) : ∀ k q, i * C + k ≤ q → (iter (matC M C la lb i) k L).getD q 0 = 0
  | 0, q, hq => h q (by omega)
  | k + 1, q, hq => by
    have := matC_zero M C la lb i L h k q (by omega)
    simp only [iter, matC, List.getD_eq_getElem?_getD] at this ⊢
    rw [List.getElem?_set_ne (by omega)]
    exact this
theorem matR_zero (M C : Nat) (la lb : List Int) (L : List Int) (h : ∀ q, L.getD q 0 = 0) : ∀ i q, i * C ≤ q → (iter (matR M C la lb) i L).getD q 0 = 0
  | 0, q, hq => h q
  | i + 1, q, hq => by
    simp only [iter, matR]
    exact matC_zero M C la lb i _ (matR_zero M C la lb L h i) C q (by rw [Nat.succ_mul] at hq; exact hq)
theorem set_self (L : List Int) (p : Nat) (h : L.getD p 0 = 0) (hp : p < L.length) : L.set p 0 = L := by
  rw [List.getD_eq_getElem?_getD, List.getElem?_eq_getElem hp] at h
  simp only [Option.getD_some] at h
  rw [← h, List.set_getElem_self]
theorem Mul2_ok (H : AH) (h0 : H.ro ≤ H.size) (a b : Ten) (va vb : Value) (ha : TenV H va a) (hb : TenV H vb b) (ta : isT a = true) (tb' : isT b = true) :
    Runs tb 67 [va, vb] H (DoPost H (if a.1.length = 2 ∧ b.1.length = 2 ∧ gi a.1 1 = gi b.1 0 then ([gi a.1 0, gi b.1 1], matP (gi a.1 0).toNat (gi a.1 1).toNat (gi b.1 1).toNat a.2 b.2) else ([], [])) (if a.1.length = 2 ∧ b.1.length = 2 ∧ gi a.1 1 = gi b.1 0 then 0 else 4)) := by
  obtain ⟨ad, ax, rfl, had, hax⟩ := id ha
  obtain ⟨bd, bx, rfl, hbd, hbx⟩ := id hb
  obtain ⟨ma, _, la⟩ := isT_spec ta
  obtain ⟨mb, _, lb⟩ := isT_spec tb'
  have hal := (mayP_spec ma).2.1
  have hbl := (mayP_spec mb).2.1
  obtain ⟨pa, ca, rfl⟩ := had.inv
  obtain ⟨pb, cb, rfl⟩ := hbd.inv
  obtain ⟨qa, da, rfl⟩ := hax.inv
  obtain ⟨qb, db, rfl⟩ := hbx.inv
  refine Runs_fn (fn := Try.f67) [.cell 4 32, .tmp 5] [0, 1, 2, 3, 4, 5, 6, 7, 8, 9, 10, 11, 12, 13, 65, 66, 69, 70, 73, 74] [] 3000 (by kernel_rfl) rfl (by kernel_rfl) (by kernel_rfl) rfl ?_; simp only [pad, argAt]
  simp (disch := omega) only [go_sem, Nat.reduceEqDiff, Nat.reduceAdd, ↓reduceIte, get_pushB, get_putB, pickB_t, pickB_f, eqB_t, eqB_f, ltB_t, leB_t, AH.size_push, AH.size_put, AH.ro_push, AH.ro_put, bslice_2' stT (.slice pa a.1.length ca) (.slice qa a.2.length da) (.slice pb b.1.length cb) (.slice qb b.2.length db)]
  refine callW_gen ?_
  intro G hG
  have hE : Ext H G := by rw [hG]; exact (((Ext.push _ _).pushed _).pushed _).pushed _
  have hr := hE.ro
  have hs := hE.size
  have ga : G.get H.size = some [.slice pa a.1.length ca, .slice qa a.2.length da] := by rw [hG]; (try simp (disch := omega) only [get_pushB, get_putB, pickB_t, pickB_f, eqB_t, eqB_f, ltB_t, AH.size_push, AH.size_put, AH.ro_push, AH.ro_put])
  have gb : G.get (H.size + 1) = some [.slice pb b.1.length cb, .slice qb b.2.length db] := by rw [hG]; (try simp (disch := omega) only [get_pushB, get_putB, pickB_t, pickB_f, eqB_t, eqB_f, ltB_t, AH.size_push, AH.size_put, AH.ro_push, AH.ro_put])
  have g0 : G.get (H.size + 1 + 1) = some [.slice none 0 0, .slice none 0 0] := by rw [hG]; (try simp (disch := omega) only [get_pushB, get_putB, pickB_t, pickB_f, eqB_t, eqB_f, ltB_t, AH.size_push, AH.size_put, AH.ro_push, AH.ro_put])
  have gl : G.get (H.size + 1 + 1 + 1) = some [.slice pa a.1.length ca, .slice qa a.2.length da, .slice pb b.1.length cb, .slice qb b.2.length db] := by rw [hG]; (try simp (disch := omega) only [get_pushB, get_putB, pickB_t, pickB_f, eqB_t, eqB_f, ltB_t, AH.size_push, AH.size_put, AH.ro_push, AH.ro_put])
  have hsz : G.size = H.size + 4 := by rw [hG]; rfl
  clear hG
  have hl : Tens G (.slice (some ⟨H.size + 1 + 1 + 1, 0, none⟩) 2 2) [a, b] := by
    refine Own.sl (H0 := H) (Own.mk (H.size + 1 + 1 + 1) 2 _ (by omega) h0 hr gl rfl (by omega)) rfl fun q x hx => ?_
    match q, hx with
    | 0, hx => simp at hx; subst hx; exact ⟨_, _, rfl, rfl, Ints.mono hE had, Ints.mono hE hax⟩
    | 1, hx => simp at hx; subst hx; exact ⟨_, _, rfl, rfl, Ints.mono hE hbd, Ints.mono hE hbx⟩
  refine callW_of (All_ok G [a, b] _ hl) ?_
  rintro r G1 ⟨rfl, hE1⟩
  have hr1 := hE1.ro
  have hs1 := hE1.size
  have ga := hE1.get _ _ ga
  have gb := hE1.get _ _ gb
  have g0 := hE1.get _ _ g0
  have hE := hE.trans hE1
  have had1 := Ints.mono hE had
  have hbd1 := Ints.mono hE hbd
  have hall : ([a, b] : List Ten).all isT = true := by simp [ta, tb']
  simp (disch := omega) only [go_sem, Nat.reduceEqDiff, Nat.reduceAdd, ↓reduceIte, get_pushB, get_putB, pickB_t, pickB_f, eqB_t, eqB_f, ltB_t, leB_t, AH.size_push, AH.size_put, AH.ro_push, AH.ro_put, hall, ga, gb]
  refine SplitG.mk (fun c1 => ?_) (fun c1 => ?_)
  · rw [if_neg (fun h => by omega), if_neg (fun h => by omega)]
    simp (disch := omega) only [go_sem, Nat.reduceEqDiff, Nat.reduceAdd, ↓reduceIte, get_pushB, get_putB, pickB_t, pickB_f, eqB_t, eqB_f, ltB_t, leB_t, AH.size_push, AH.size_put, AH.ro_push, AH.ro_put, ga, gb, g0, abT0]
    exact ⟨_, rfl, OwnTD.none _ _, Ext.put hE (by omega) (by omega) _⟩
  · have c1 : a.1.length = 2 := by omega
    simp (disch := omega) only [go_sem, Nat.reduceEqDiff, Nat.reduceAdd, ↓reduceIte, get_pushB, get_putB, pickB_t, pickB_f, eqB_t, eqB_f, ltB_t, leB_t, AH.size_push, AH.size_put, AH.ro_push, AH.ro_put, ga, gb]
    refine SplitG.mk (fun c2 => ?_) (fun c2 => ?_)
    · rw [if_neg (fun h => by omega), if_neg (fun h => by omega)]
      simp (disch := omega) only [go_sem, Nat.reduceEqDiff, Nat.reduceAdd, ↓reduceIte, get_pushB, get_putB, pickB_t, pickB_f, eqB_t, eqB_f, ltB_t, leB_t, AH.size_push, AH.size_put, AH.ro_push, AH.ro_put, ga, gb, g0, abT0]
      exact ⟨_, rfl, OwnTD.none _ _, Ext.put hE (by omega) (by omega) _⟩
    · have c2 : b.1.length = 2 := by omega
      simp (disch := omega) only [go_sem, Nat.reduceEqDiff, Nat.reduceAdd, ↓reduceIte, get_pushB, get_putB, pickB_t, pickB_f, eqB_t, eqB_f, ltB_t, leB_t, AH.size_push, AH.size_put, AH.ro_push, AH.ro_put, ga, gb, ixI had1, ldI had1, ixI hbd1, ldI hbd1]
      refine Split.mk (fun c3 => ?_) (fun c3 => ?_)
      · rw [if_neg (fun h => by omega), if_neg (fun h => by omega)]
        simp (disch := omega) only [go_sem, Nat.reduceEqDiff, Nat.reduceAdd, ↓reduceIte, get_pushB, get_putB, pickB_t, pickB_f, eqB_t, eqB_f, ltB_t, leB_t, AH.size_push, AH.size_put, AH.ro_push, AH.ro_put, ga, gb, g0, abT0]
        exact ⟨_, rfl, OwnTD.none _ _, Ext.put hE (by omega) (by omega) _⟩
      · have c3 : gi a.1 1 = gi b.1 0 := by omega
        rw [if_pos ⟨c1, c2, c3⟩, if_pos ⟨c1, c2, c3⟩]
        obtain ⟨rn, mn, hda, hrn, hmn, hpa, hg0, hg1⟩ := two_dims ma c1
        obtain ⟨mn', cn, hdb, _, hcn, hpb, hh0, hh1⟩ := two_dims mb c2
        have hmm : mn' = mn := by omega
        subst hmm
        simp only [hg0, hg1, hh0, hh1, Int.toNat_natCast]
        have hal2 : a.2.length = rn * mn' := by rw [la, hpa, Int.toNat_natCast]
        have hbl2 : b.2.length = mn' * cn := by rw [lb, hpb, Int.toNat_natCast]
        simp (disch := omega) only [go_sem, Nat.reduceEqDiff, Nat.reduceAdd, ↓reduceIte, get_pushB, get_putB, pickB_t, pickB_f, eqB_t, eqB_f, ltB_t, leB_t, AH.size_push, AH.size_put, AH.ro_push, AH.ro_put, ga, gb, ixI had1, ldI had1, ixI hbd1, ldI hbd1, hg0, hg1, hh0, hh1, bslice_2 stI (.int .i64 rn) (.int .i64 cn) rfl rfl]
        refine callW_gen ?_
        intro G2 hG2
        have hE2 : Ext G1 G2 := by rw [hG2]; exact Ext.push _ _
        have hsz2 : G2.size = G1.size + 1 := by rw [hG2]; rfl
        have hr2 := hE2.ro
        have hdd : Ints G2 (.slice (some ⟨G1.size, 0, none⟩) 2 1) [(rn : Int), (cn : Int)] := (show OwnI H G2 _ [(rn : Int), (cn : Int)] from Own.mk G1.size 2 [.int .i64 rn, .int .i64 cn] (by omega) h0 (by omega) (by rw [hG2]; (try simp (disch := omega) only [get_pushB, get_putB, pickB_t, pickB_f, eqB_t, eqB_f, ltB_t, AH.size_push, AH.size_put, AH.ro_push, AH.ro_put])) rfl (by omega)).ints
        clear hG2
        have ga := hE2.get _ _ ga
        have gb := hE2.get _ _ gb
        have g0 := hE2.get _ _ g0
        have hE := hE.trans hE2
        have hmy : mayP [(rn : Int), (cn : Int)] = true := mayP_two (by omega) (by omega)
        have hpn : (prodL [(rn : Int), (cn : Int)]).toNat = rn * cn := by rw [prodL_2 _ _ (by omega) (by omega), ← Int.natCast_mul, Int.toNat_natCast]
        refine callW_of (May_ok G2 _ _ hdd) ?_
        rintro r G2' ⟨rfl, rfl⟩
        simp (disch := omega) only [go_sem, Nat.reduceEqDiff, Nat.reduceAdd, ↓reduceIte, get_pushB, get_putB, pickB_t, pickB_f, eqB_t, eqB_f, ltB_t, leB_t, AH.size_push, AH.size_put, AH.ro_push, AH.ro_put, hmy]
        refine callW_of (New_ok G2' (by omega) _ _ hdd hmy) ?_
        rintro r G3 ⟨⟨nd, nx, rfl, hod, hox, hne⟩, hE3⟩
        rw [hpn] at hox ⊢
        have hr3 := hE3.ro
        have hs3 := hE3.size
        have hbd3 := Own.blk hod _ _ _ rfl
        have hbx3 := Own.blk hox _ _ _ rfl
        simp only at hbd3 hbx3
        have ga := hE3.get _ _ ga
        have gb := hE3.get _ _ gb
        have g0 := hE3.get _ _ g0
        simp only [List.length_replicate] at hox ⊢
        simp (disch := omega) only [go_sem, Nat.reduceEqDiff, Nat.reduceAdd, ↓reduceIte, get_pushB, get_putB, pickB_t, pickB_f, eqB_t, eqB_f, ltB_t, leB_t, AH.size_push, AH.size_put, AH.ro_push, AH.ro_put]
        refine Sat_gen ?_
        intro G4 hG4
        have hE4 : Ext G3 G4 := by rw [hG4]; exact (Ext.push _ _).put (Nat.le_refl _) (by simp only [AH.size_push]; omega) _
        have hs4 : G4.size = G3.size + 1 := by rw [hG4]; rfl
        have kt : G4.get G3.size = some [.slice (some ⟨nd, 0, none⟩) 2 1, .slice (some ⟨nx, 0, none⟩) (rn * cn) 1] := by rw [hG4]; (try simp (disch := omega) only [get_pushB, get_putB, pickB_t, pickB_f, eqB_t, eqB_f, ltB_t, AH.size_push, AH.size_put, AH.ro_push, AH.ro_put]); rfl
        have hr4 := hE4.ro
        clear hG4
        have ga := hE4.get _ _ ga
        have gb := hE4.get _ _ gb
        have g0 := hE4.get _ _ g0
        have hEH := hE.trans (hE3.trans hE4)
        have hN : rn * cn ≤ 64 := Nat.mul_le_mul hrn.2 hcn.2
        have hN1 : rn * mn' ≤ 64 := Nat.mul_le_mul hrn.2 hmn.2
        have hN2 : mn' * cn ≤ 64 := Nat.mul_le_mul hmn.2 hcn.2
        refine Sat_loop 3000 (fun z H' V => ∃ (i : Nat) (y1 y2 y3 y4 y5 y6 y7 : Value), i ≤ rn ∧ z = rn - i ∧ Fr nx G4 H' ∧ OwnI G2' H' (.slice (some ⟨nx, 0, none⟩) (rn * cn) 1) (iter (matR mn' cn a.2 b.2) i (List.replicate (rn * cn) 0)) ∧ V = [.agg #[.slice pa a.1.length ca, .slice qa a.2.length da], .agg #[.slice pb b.1.length cb, .slice qb b.2.length db], .pointer (some ⟨H.size, 0, none⟩), .pointer (some ⟨H.size + 1, 0, none⟩), .pointer (some ⟨H.size + 1 + 1, 0, none⟩), .int .i64 0, .int .i64 rn, .int .i64 mn', .int .i64 cn, .slice (some ⟨G1.size, 0, none⟩) 2 1, .pointer (some ⟨G3.size, 0, none⟩), y1, y2, y3, .int .i64 rn, .int .i64 i, y4, y5, y6, y7]) rn ⟨0, _, _, _, _, _, _, _, by omega, by omega, Fr.refl _ _, hox.ext hE4, rfl⟩ ?_
        rintro z H' V ⟨i, y1, y2, y3, y4, y5, y6, y7, hi, rfl, hF, ho, rfl⟩ ih
        simp (disch := omega) only [go_sem, Nat.reduceEqDiff, Nat.reduceAdd, ↓reduceIte, get_pushB, get_putB, pickB_t, pickB_f, eqB_t, eqB_f, ltB_t, leB_t, AH.size_push, AH.size_put, AH.ro_push, AH.ro_put]
        refine Split.mk (fun h1 => ?_) (fun h1 => ?_)
        · have hi2 : i < rn := by omega
          simp (disch := omega) only [go_sem, Nat.reduceEqDiff, Nat.reduceAdd, ↓reduceIte, get_pushB, get_putB, pickB_t, pickB_f, eqB_t, eqB_f, ltB_t, leB_t, AH.size_push, AH.size_put, AH.ro_push, AH.ro_put]
          refine Sat_loop 3000 (fun z H2 V => ∃ (k : Nat) (y2 y3 y6 y7 : Value), k ≤ cn ∧ z = cn - k ∧ Fr nx G4 H2 ∧ OwnI G2' H2 (.slice (some ⟨nx, 0, none⟩) (rn * cn) 1) (iter (matC mn' cn a.2 b.2 i) k (iter (matR mn' cn a.2 b.2) i (List.replicate (rn * cn) 0))) ∧ V = [.agg #[.slice pa a.1.length ca, .slice qa a.2.length da], .agg #[.slice pb b.1.length cb, .slice qb b.2.length db], .pointer (some ⟨H.size, 0, none⟩), .pointer (some ⟨H.size + 1, 0, none⟩), .pointer (some ⟨H.size + 1 + 1, 0, none⟩), .int .i64 0, .int .i64 rn, .int .i64 mn', .int .i64 cn, .slice (some ⟨G1.size, 0, none⟩) 2 1, .pointer (some ⟨G3.size, 0, none⟩), .int .i64 i, y2, y3, .int .i64 rn, .int .i64 i, .int .i64 cn, .int .i64 k, y6, y7]) cn ⟨0, _, _, _, _, by omega, by omega, hF, ho, rfl⟩ ?_
          clear ho hF
          rintro z H2 V ⟨k, y2, y3, y6, y7, hk, rfl, hF, ho, rfl⟩ ih2
          simp (disch := omega) only [go_sem, Nat.reduceEqDiff, Nat.reduceAdd, ↓reduceIte, get_pushB, get_putB, pickB_t, pickB_f, eqB_t, eqB_f, ltB_t, leB_t, AH.size_push, AH.size_put, AH.ro_push, AH.ro_put]
          refine Split.mk (fun h2 => ?_) (fun h2 => ?_)
          · have hk2 : k < cn := by omega
            have b1 : i * cn + k < cn * rn := cell_bd hi2 hk2
            have c1 : ((i * cn : Nat) : Int) = (i : Int) * cn := Int.natCast_mul ..
            have c4 : cn * rn = rn * cn := Nat.mul_comm ..
            have hz := matC_zero mn' cn a.2 b.2 i (iter (matR mn' cn a.2 b.2) i (List.replicate (rn * cn) 0)) (matR_zero mn' cn a.2 b.2 _ (fun q => by rw [List.getD_eq_getElem?_getD, List.getElem?_replicate]; split <;> rfl) i) k (i * cn + k) (Nat.le_refl _)
            have hlen : (iter (matC mn' cn a.2 b.2 i) k (iter (matR mn' cn a.2 b.2) i (List.replicate (rn * cn) 0))).length = rn * cn := by rw [matC_len, matR_len, List.length_replicate]
            have hnext : (iter (matC mn' cn a.2 b.2 i) k (iter (matR mn' cn a.2 b.2) i (List.replicate (rn * cn) 0))).set (i * cn + k) (iter (matD mn' cn a.2 b.2 i k) mn' 0) = iter (matC mn' cn a.2 b.2 i) (k + 1) (iter (matR mn' cn a.2 b.2) i (List.replicate (rn * cn) 0)) := rfl
            generalize hL : (iter (matC mn' cn a.2 b.2 i) k (iter (matR mn' cn a.2 b.2) i (List.replicate (rn * cn) 0))) = L at *
            have ho := (set_self L (i * cn + k) hz (by omega)).symm ▸ ho
            simp (disch := omega) only [go_sem, Nat.reduceEqDiff, Nat.reduceAdd, ↓reduceIte, get_pushB, get_putB, pickB_t, pickB_f, eqB_t, eqB_f, ltB_t, leB_t, AH.size_push, AH.size_put, AH.ro_push, AH.ro_put]
            refine Sat_loop 3000 (fun z H3 V => ∃ (m : Nat) (y3 : Value), m ≤ mn' ∧ z = mn' - m ∧ Fr nx G4 H3 ∧ OwnI G2' H3 (.slice (some ⟨nx, 0, none⟩) (rn * cn) 1) (L.set (i * cn + k) (iter (matD mn' cn a.2 b.2 i k) m 0)) ∧ V = [.agg #[.slice pa a.1.length ca, .slice qa a.2.length da], .agg #[.slice pb b.1.length cb, .slice qb b.2.length db], .pointer (some ⟨H.size, 0, none⟩), .pointer (some ⟨H.size + 1, 0, none⟩), .pointer (some ⟨H.size + 1 + 1, 0, none⟩), .int .i64 0, .int .i64 rn, .int .i64 mn', .int .i64 cn, .slice (some ⟨G1.size, 0, none⟩) 2 1, .pointer (some ⟨G3.size, 0, none⟩), .int .i64 i, .int .i64 k, y3, .int .i64 rn, .int .i64 i, .int .i64 cn, .int .i64 k, .int .i64 mn', .int .i64 m]) mn' ⟨0, _, by omega, by omega, hF, ho, rfl⟩ ?_
            clear ho hF
            rintro z H3 V ⟨m, y3, hm, rfl, hF, ho, rfl⟩ ih3
            have ja := hF.get _ _ (by omega) ga
            have jb := hF.get _ _ (by omega) gb
            have jt := hF.get _ _ (by omega) kt
            have hEF := hF.ext hEH (by omega)
            have hax' := Ints.mono hEF hax
            have hbx' := Ints.mono hEF hbx
            have hlen2 : (L.set (i * cn + k) (iter (matD mn' cn a.2 b.2 i k) m 0)).length = rn * cn := by rw [List.length_set, hlen]
            have hgi : gi (L.set (i * cn + k) (iter (matD mn' cn a.2 b.2 i k) m 0)) ((i : Int) * cn + k) = iter (matD mn' cn a.2 b.2 i k) m 0 := by
              have e1 : ((i : Int) * cn + k).toNat = i * cn + k := by omega
              rw [gi, e1, List.getD_eq_getElem?_getD, List.getElem?_set_self (by omega)]
              rfl
            simp (disch := omega) only [go_sem, Nat.reduceEqDiff, Nat.reduceAdd, ↓reduceIte, get_pushB, get_putB, pickB_t, pickB_f, eqB_t, eqB_f, ltB_t, leB_t, AH.size_push, AH.size_put, AH.ro_push, AH.ro_put]
            refine Split.mk (fun h3 => ?_) (fun h3 => ?_)
            · have hm2 : m < mn' := by omega
              have b2 : i * mn' + m < mn' * rn := cell_bd hi2 hm2
              have b3 : m * cn + k < cn * mn' := cell_bd hm2 hk2
              have c2 : ((i * mn' : Nat) : Int) = (i : Int) * mn' := Int.natCast_mul ..
              have c3 : ((m * cn : Nat) : Int) = (m : Int) * cn := Int.natCast_mul ..
              have c5 : mn' * rn = rn * mn' := Nat.mul_comm ..
              have c6 : cn * mn' = mn' * cn := Nat.mul_comm ..
              obtain ⟨hst, ho2, hb1, hb2⟩ := ho.set ((i : Int) * cn + k) (iter (matD mn' cn a.2 b.2 i k) (m + 1) 0) (by omega)
              have hstep : IntKind.i64.wrap (iter (matD mn' cn a.2 b.2 i k) m 0 + IntKind.i64.wrap (gi a.2 ((i : Int) * mn' + m) * gi b.2 ((m : Int) * cn + k))) = iter (matD mn' cn a.2 b.2 i k) (m + 1) 0 := rfl
              simp (disch := omega) only [go_sem, Nat.reduceEqDiff, Nat.reduceAdd, ↓reduceIte, get_pushB, get_putB, pickB_t, pickB_f, eqB_t, eqB_f, ltB_t, leB_t, AH.size_push, AH.size_put, AH.ro_push, AH.ro_put, ja, jb, jt, ixI hax', ldI hax', ixI hbx', ldI hbx', ixI ho.ints, ldI ho.ints, hgi, hstep, hst]
              refine ih3 _ _ _ ?_ ⟨m + 1, .int .i64 m, ?_, rfl, hF.trans (Fr.put nx _ hb1 _), ?_, rfl⟩
              · omega
              · omega
              · have e1 : ((i : Int) * cn + k).toNat = i * cn + k := by omega
                rw [e1, List.set_set] at ho2
                rw [e1, List.set_set]
                exact ho2
            · have hmc : m = mn' := by omega
              subst hmc
              rw [hnext] at ho
              simp (disch := omega) only [go_sem, Nat.reduceEqDiff, Nat.reduceAdd, ↓reduceIte, get_pushB, get_putB, pickB_t, pickB_f, eqB_t, eqB_f, ltB_t, leB_t, AH.size_push, AH.size_put, AH.ro_push, AH.ro_put]
              refine ih2 _ _ _ ?_ ⟨k + 1, _, _, _, _, ?_, rfl, hF, ho, rfl⟩
              · omega
              · omega
          · have hkc : k = cn := by omega
            subst hkc
            simp (disch := omega) only [go_sem, Nat.reduceEqDiff, Nat.reduceAdd, ↓reduceIte, get_pushB, get_putB, pickB_t, pickB_f, eqB_t, eqB_f, ltB_t, leB_t, AH.size_push, AH.size_put, AH.ro_push, AH.ro_put]
            refine ih _ _ _ ?_ ⟨i + 1, _, _, _, _, _, _, _, ?_, rfl, hF, ho, rfl⟩
            · omega
            · omega
        · have hiN : i = rn := by omega
          subst hiN
          have jt := hF.get _ _ (by omega) kt
          have j0 := hF.get _ _ (by omega) g0
          have hrF := hF.ro
          have hsF := hF.size
          have hEF := hF.ext hEH (by omega)
          have hlen : (matP i mn' cn a.2 b.2).length = i * cn := by rw [matP, matR_len, List.length_replicate]
          have hod2 : OwnI G2' H' (.slice (some ⟨nd, 0, none⟩) 2 1) [(i : Int), (cn : Int)] := Own.fr (hod.ext hE4) hF (fun a n k e => by cases e; exact hne)
          have hT : OwnTD G2' H' (.agg #[.slice (some ⟨nd, 0, none⟩) 2 1, .slice (some ⟨nx, 0, none⟩) (i * cn) 1]) ([(i : Int), (cn : Int)], matP i mn' cn a.2 b.2) := ⟨_, _, rfl, hod2, ho, fun a n k e b m j e2 => by cases e; cases e2; exact fun e => hne e.symm⟩
          simp (disch := omega) only [go_sem, Nat.reduceEqDiff, Nat.reduceAdd, ↓reduceIte, get_pushB, get_putB, pickB_t, pickB_f, eqB_t, eqB_f, ltB_t, leB_t, AH.size_push, AH.size_put, AH.ro_push, AH.ro_put, j0, jt]
          exact ⟨_, rfl, hT.out hE h0 (by omega) _, hEF.put (by omega) (by omega) _⟩
theorem RefMat_ok (H : AH) (h0 : H.ro ≤ H.size) (a b : Ten) (va vb : Value) (ha : TenV H va a) (hb : TenV H vb b) (ta : isT a = true) (tb' : isT b = true) (c1 : a.1.length = 2) (c2 : b.1.length = 2) (c3 : gi a.1 1 = gi b.1 0) : Runs tb 91 [va, vb] H (fun r H' => OwnTD H H' r ([gi a.1 0, gi b.1 1], matP (gi a.1 0).toNat (gi a.1 1).toNat (gi b.1 1).toNat a.2 b.2) ∧ Ext H H') := by
  obtain ⟨ad, ax, rfl, had, hax⟩ := id ha
  obtain ⟨bd, bx, rfl, hbd, hbx⟩ := id hb
  obtain ⟨ma, _, la⟩ := isT_spec ta
  obtain ⟨mb, _, lb⟩ := isT_spec tb'
  obtain ⟨pa, ca, rfl⟩ := had.inv
  obtain ⟨pb, cb, rfl⟩ := hbd.inv
  obtain ⟨qa, da, rfl⟩ := hax.inv
  obtain ⟨qb, db, rfl⟩ := hbx.inv
  obtain ⟨rn, mn, hda, hrn, hmn, hpa, hg0, hg1⟩ := two_dims ma c1
  obtain ⟨mn', cn, hdb, _, hcn, hpb, hh0, hh1⟩ := two_dims mb c2
  have hmm : mn' = mn := by omega
  subst hmm
  simp only [hg0, hg1, hh0, hh1, Int.toNat_natCast]
  have hal2 : a.2.length = rn * mn' := by rw [la, hpa, Int.toNat_natCast]
  have hbl2 : b.2.length = mn' * cn := by rw [lb, hpb, Int.toNat_natCast]
  have hP : Ext H (((H.push [.slice pa a.1.length ca, .slice qa a.2.length da]).push [.slice pb b.1.length cb, .slice qb b.2.length db]).push [.slice none 0 0, .slice none 0 0]) := ((Ext.push _ _).pushed _).pushed _
  have hadP := Ints.mono hP had
  have hbdP := Ints.mono hP hbd
  refine Runs_fn (fn := Try.f91) [.cell 4 32] [0, 1, 2, 3, 4, 5, 6, 7, 8, 9] [] 3000 (by kernel_rfl) rfl (by kernel_rfl) (by kernel_rfl) rfl ?_; simp only [pad, argAt]
  simp (disch := omega) only [go_sem, Nat.reduceEqDiff, Nat.reduceAdd, ↓reduceIte, get_pushB, get_putB, pickB_t, pickB_f, eqB_t, eqB_f, ltB_t, leB_t, AH.size_push, AH.size_put, AH.ro_push, AH.ro_put, ixI hadP, ldI hadP, ixI hbdP, ldI hbdP, hg0, hh1, bslice_2 stI (.int .i64 rn) (.int .i64 cn) rfl rfl]
  refine callW_gen ?_
  intro G2 hG2
  have hE : Ext H G2 := by rw [hG2]; exact (((Ext.push _ _).pushed _).pushed _).pushed _
  have hsz2 : G2.size = H.size + 4 := by rw [hG2]; rfl
  have hr2 := hE.ro
  have ga : G2.get H.size = some [.slice pa a.1.length ca, .slice qa a.2.length da] := by rw [hG2]; (try simp (disch := omega) only [get_pushB, get_putB, pickB_t, pickB_f, eqB_t, eqB_f, ltB_t, AH.size_push, AH.size_put, AH.ro_push, AH.ro_put])
  have gb : G2.get (H.size + 1) = some [.slice pb b.1.length cb, .slice qb b.2.length db] := by rw [hG2]; (try simp (disch := omega) only [get_pushB, get_putB, pickB_t, pickB_f, eqB_t, eqB_f, ltB_t, AH.size_push, AH.size_put, AH.ro_push, AH.ro_put])
  have g0 : G2.get (H.size + 1 + 1) = some [.slice none 0 0, .slice none 0 0] := by rw [hG2]; (try simp (disch := omega) only [get_pushB, get_putB, pickB_t, pickB_f, eqB_t, eqB_f, ltB_t, AH.size_push, AH.size_put, AH.ro_push, AH.ro_put])
  have hdd : Ints G2 (.slice (some ⟨H.size + 1 + 1 + 1, 0, none⟩) 2 1) [(rn : Int), (cn : Int)] := (show OwnI H G2 _ [(rn : Int), (cn : Int)] from Own.mk (H.size + 1 + 1 + 1) 2 [.int .i64 rn, .int .i64 cn] (by omega) h0 (by omega) (by rw [hG2]; (try simp (disch := omega) only [get_pushB, get_putB, pickB_t, pickB_f, eqB_t, eqB_f, ltB_t, AH.size_push, AH.size_put, AH.ro_push, AH.ro_put])) rfl (by omega)).ints
  clear hG2
  have hmy : mayP [(rn : Int), (cn : Int)] = true := mayP_two (by omega) (by omega)
  have hpn : (prodL [(rn : Int), (cn : Int)]).toNat = rn * cn := by rw [prodL_2 _ _ (by omega) (by omega), ← Int.natCast_mul, Int.toNat_natCast]
  have hNp : 1 ≤ rn * cn := Nat.mul_le_mul hrn.1 hcn.1
  refine callW_of (RefFill_ok G2 (by omega) _ 0 _ hdd hmy) ?_
  rintro r G3 ⟨⟨vd, vx, rfl, hod, hox, hne⟩, hE3⟩
  rw [hpn] at hox
  obtain ⟨pd, cd, rfl⟩ := hod.ints.inv
  obtain ⟨nx, rfl⟩ := hox.block (by intro h; have := congrArg List.length h; simp at this; omega)
  simp only [List.length_replicate, List.length_cons, List.length_nil] at hox hne hod ⊢
  have hr3 := hE3.ro
  have hs3 := hE3.size
  have hbx3 := Own.blk hox _ _ _ rfl
  simp only at hbx3
  have ga := hE3.get _ _ ga
  have gb := hE3.get _ _ gb
  have g0 := hE3.get _ _ g0
  simp (disch := omega) only [go_sem, Nat.reduceEqDiff, Nat.reduceAdd, ↓reduceIte, get_pushB, get_putB, pickB_t, pickB_f, eqB_t, eqB_f, ltB_t, leB_t, AH.size_push, AH.size_put, AH.ro_push, AH.ro_put]
  refine Sat_gen ?_
  intro G4 hG4
  have hE4 : Ext G3 G4 := by rw [hG4]; exact (Ext.push _ _).put (Nat.le_refl _) (by simp only [AH.size_push]; omega) _
  have hs4 : G4.size = G3.size + 1 := by rw [hG4]; rfl
  have kt : G4.get G3.size = some [.slice pd 2 cd, .slice (some ⟨nx, 0, none⟩) (rn * cn) 1] := by rw [hG4]; (try simp (disch := omega) only [get_pushB, get_putB, pickB_t, pickB_f, eqB_t, eqB_f, ltB_t, AH.size_push, AH.size_put, AH.ro_push, AH.ro_put])
  have hr4 := hE4.ro
  clear hG4
  have ga := hE4.get _ _ ga
  have gb := hE4.get _ _ gb
  have g0 := hE4.get _ _ g0
  have hEH := hE.trans (hE3.trans hE4)
  have hN : rn * cn ≤ 64 := Nat.mul_le_mul hrn.2 hcn.2
  have hN1 : rn * mn' ≤ 64 := Nat.mul_le_mul hrn.2 hmn.2
  have hN2 : mn' * cn ≤ 64 := Nat.mul_le_mul hmn.2 hcn.2
  refine Sat_loop 3000 (fun z H' V => ∃ (i : Nat) (y2 y3 y4 : Value), i ≤ rn ∧ z = rn - i ∧ Fr nx G4 H' ∧ OwnI G2 H' (.slice (some ⟨nx, 0, none⟩) (rn * cn) 1) (iter (matR mn' cn a.2 b.2) i (List.replicate (rn * cn) 0)) ∧ V = [.agg #[.slice pa a.1.length ca, .slice qa a.2.length da], .agg #[.slice pb b.1.length cb, .slice qb b.2.length db], .pointer (some ⟨H.size, 0, none⟩), .pointer (some ⟨H.size + 1, 0, none⟩), .pointer (some ⟨H.size + 1 + 1, 0, none⟩), .pointer (some ⟨G3.size, 0, none⟩), .int .i64 i, y2, y3, y4]) rn ⟨0, _, _, _, by omega, by omega, Fr.refl _ _, hox.ext hE4, rfl⟩ ?_
  rintro z H' V ⟨i, y2, y3, y4, hi, rfl, hF, ho, rfl⟩ ih
  have ja := hF.get _ _ (by omega) ga
  have had' := Ints.mono (hF.ext hEH (by omega)) had
  simp (disch := omega) only [go_sem, Nat.reduceEqDiff, Nat.reduceAdd, ↓reduceIte, get_pushB, get_putB, pickB_t, pickB_f, eqB_t, eqB_f, ltB_t, leB_t, AH.size_push, AH.size_put, AH.ro_push, AH.ro_put, ja, ixI had', ldI had', hg0]
  refine Split.mk (fun h1 => ?_) (fun h1 => ?_)
  · have hi2 : i < rn := by omega
    simp (disch := omega) only [go_sem, Nat.reduceEqDiff, Nat.reduceAdd, ↓reduceIte, get_pushB, get_putB, pickB_t, pickB_f, eqB_t, eqB_f, ltB_t, leB_t, AH.size_push, AH.size_put, AH.ro_push, AH.ro_put]
    refine Sat_loop 3000 (fun z H2 V => ∃ (k : Nat) (y3 y4 : Value), k ≤ cn ∧ z = cn - k ∧ Fr nx G4 H2 ∧ OwnI G2 H2 (.slice (some ⟨nx, 0, none⟩) (rn * cn) 1) (iter (matC mn' cn a.2 b.2 i) k (iter (matR mn' cn a.2 b.2) i (List.replicate (rn * cn) 0))) ∧ V = [.agg #[.slice pa a.1.length ca, .slice qa a.2.length da], .agg #[.slice pb b.1.length cb, .slice qb b.2.length db], .pointer (some ⟨H.size, 0, none⟩), .pointer (some ⟨H.size + 1, 0, none⟩), .pointer (some ⟨H.size + 1 + 1, 0, none⟩), .pointer (some ⟨G3.size, 0, none⟩), .int .i64 i, .int .i64 k, y3, y4]) cn ⟨0, _, _, by omega, by omega, hF, ho, rfl⟩ ?_
    clear ho hF ja had'
    rintro z H2 V ⟨k, y3, y4, hk, rfl, hF, ho, rfl⟩ ih2
    have jb := hF.get _ _ (by omega) gb
    have hbd' := Ints.mono (hF.ext hEH (by omega)) hbd
    simp (disch := omega) only [go_sem, Nat.reduceEqDiff, Nat.reduceAdd, ↓reduceIte, get_pushB, get_putB, pickB_t, pickB_f, eqB_t, eqB_f, ltB_t, leB_t, AH.size_push, AH.size_put, AH.ro_push, AH.ro_put, jb, ixI hbd', ldI hbd', hh1]
    refine Split.mk (fun h2 => ?_) (fun h2 => ?_)
    · have hk2 : k < cn := by omega
      have b1 : i * cn + k < cn * rn := cell_bd hi2 hk2
      have c1' : ((i * cn : Nat) : Int) = (i : Int) * cn := Int.natCast_mul ..
      have c4 : cn * rn = rn * cn := Nat.mul_comm ..
      have hlen : (iter (matC mn' cn a.2 b.2 i) k (iter (matR mn' cn a.2 b.2) i (List.replicate (rn * cn) 0))).length = rn * cn := by rw [matC_len, matR_len, List.length_replicate]
      have hnext : (iter (matC mn' cn a.2 b.2 i) k (iter (matR mn' cn a.2 b.2) i (List.replicate (rn * cn) 0))).set (i * cn + k) (iter (matD mn' cn a.2 b.2 i k) mn' 0) = iter (matC mn' cn a.2 b.2 i) (k + 1) (iter (matR mn' cn a.2 b.2) i (List.replicate (rn * cn) 0)) := rfl
      generalize hL : (iter (matC mn' cn a.2 b.2 i) k (iter (matR mn' cn a.2 b.2) i (List.replicate (rn * cn) 0))) = L at *
      simp (disch := omega) only [go_sem, Nat.reduceEqDiff, Nat.reduceAdd, ↓reduceIte, get_pushB, get_putB, pickB_t, pickB_f, eqB_t, eqB_f, ltB_t, leB_t, AH.size_push, AH.size_put, AH.ro_push, AH.ro_put]
      refine Sat_loop 3000 (fun z H3 V => ∃ (m : Nat), m ≤ mn' ∧ z = mn' - m ∧ H3 = H2 ∧ V = [.agg #[.slice pa a.1.length ca, .slice qa a.2.length da], .agg #[.slice pb b.1.length cb, .slice qb b.2.length db], .pointer (some ⟨H.size, 0, none⟩), .pointer (some ⟨H.size + 1, 0, none⟩), .pointer (some ⟨H.size + 1 + 1, 0, none⟩), .pointer (some ⟨G3.size, 0, none⟩), .int .i64 i, .int .i64 k, .int .i64 (iter (matD mn' cn a.2 b.2 i k) m 0), .int .i64 m]) mn' ⟨0, by omega, by omega, rfl, rfl⟩ ?_
      rintro z H3 V ⟨m, hm, rfl, rfl, rfl⟩ ih3
      have ja := hF.get _ _ (by omega) ga
      have jt := hF.get _ _ (by omega) kt
      have hEF := hF.ext hEH (by omega)
      have had' := Ints.mono hEF had
      have hax' := Ints.mono hEF hax
      have hbx' := Ints.mono hEF hbx
      simp (disch := omega) only [go_sem, Nat.reduceEqDiff, Nat.reduceAdd, ↓reduceIte, get_pushB, get_putB, pickB_t, pickB_f, eqB_t, eqB_f, ltB_t, leB_t, AH.size_push, AH.size_put, AH.ro_push, AH.ro_put, ja, ixI had', ldI had', hg1]
      refine Split.mk (fun h3 => ?_) (fun h3 => ?_)
      · have hm2 : m < mn' := by omega
        have b2 : i * mn' + m < mn' * rn := cell_bd hi2 hm2
        have b3 : m * cn + k < cn * mn' := cell_bd hm2 hk2
        have c2' : ((i * mn' : Nat) : Int) = (i : Int) * mn' := Int.natCast_mul ..
        have c3' : ((m * cn : Nat) : Int) = (m : Int) * cn := Int.natCast_mul ..
        have c5 : mn' * rn = rn * mn' := Nat.mul_comm ..
        have c6 : cn * mn' = mn' * cn := Nat.mul_comm ..
        have hstep : IntKind.i64.wrap ((iter (matD mn' cn a.2 b.2 i k) m 0) + IntKind.i64.wrap (gi a.2 ((i : Int) * mn' + m) * gi b.2 ((m : Int) * cn + k))) = iter (matD mn' cn a.2 b.2 i k) (m + 1) 0 := rfl
        simp (disch := omega) only [go_sem, Nat.reduceEqDiff, Nat.reduceAdd, ↓reduceIte, get_pushB, get_putB, pickB_t, pickB_f, eqB_t, eqB_f, ltB_t, leB_t, AH.size_push, AH.size_put, AH.ro_push, AH.ro_put, ja, jb, ixI had', ldI had', hg1, ixI hbd', ldI hbd', hh1, ixI hax', ldI hax', ixI hbx', ldI hbx', hstep]
        refine ih3 _ _ _ ?_ ⟨m + 1, ?_, rfl, rfl, rfl⟩
        · omega
        · omega
      · have hmc : m = mn' := by omega
        subst hmc
        obtain ⟨hst, ho2, hb1, hb2⟩ := ho.set ((i : Int) * cn + k) (iter (matD m cn a.2 b.2 i k) m 0) (by omega)
        have e1 : ((i : Int) * cn + k).toNat = i * cn + k := by omega
        simp (disch := omega) only [go_sem, Nat.reduceEqDiff, Nat.reduceAdd, ↓reduceIte, get_pushB, get_putB, pickB_t, pickB_f, eqB_t, eqB_f, ltB_t, leB_t, AH.size_push, AH.size_put, AH.ro_push, AH.ro_put, ja, jb, jt, ixI hbd', ldI hbd', hh1, ixI ho.ints, hst]
        refine ih2 _ _ _ ?_ ⟨k + 1, _, _, ?_, rfl, hF.trans (Fr.put nx _ hb1 _), ?_, rfl⟩
        · omega
        · omega
        · rw [← hnext]
          rw [e1] at ho2 ⊢
          exact ho2
    · have hkc : k = cn := by omega
      subst hkc
      simp (disch := omega) only [go_sem, Nat.reduceEqDiff, Nat.reduceAdd, ↓reduceIte, get_pushB, get_putB, pickB_t, pickB_f, eqB_t, eqB_f, ltB_t, leB_t, AH.size_push, AH.size_put, AH.ro_push, AH.ro_put]
      refine ih _ _ _ ?_ ⟨i + 1, _, _, _, ?_, rfl, hF, ho, rfl⟩
      · omega
      · omega
  · have hiN : i = rn := by omega
    subst hiN
    have jt := hF.get _ _ (by omega) kt
    have j0 := hF.get _ _ (by omega) g0
    have hrF := hF.ro
    have hsF := hF.size
    have hEF := hF.ext hEH (by omega)
    have hlen : (matP i mn' cn a.2 b.2).length = i * cn := by rw [matP, matR_len, List.length_replicate]
    have hod2 : OwnI G2 H' (.slice pd 2 cd) [(i : Int), (cn : Int)] := Own.fr (hod.ext hE4) hF (fun p q r e => fun e2 => hne _ _ _ e _ _ _ rfl e2.symm)
    have hT : OwnTD G2 H' (.agg #[.slice pd 2 cd, .slice (some ⟨nx, 0, none⟩) (i * cn) 1]) ([(i : Int), (cn : Int)], matP i mn' cn a.2 b.2) := ⟨_, _, rfl, hod2, ho, hne⟩
    simp (disch := omega) only [go_sem, Nat.reduceEqDiff, Nat.reduceAdd, ↓reduceIte, get_pushB, get_putB, pickB_t, pickB_f, eqB_t, eqB_f, ltB_t, leB_t, AH.size_push, AH.size_put, AH.ro_push, AH.ro_put, j0, jt]
    exact ⟨hT.out hE h0 (by omega) _, hEF.put (by omega) (by omega) _⟩
theorem dbl9_ok (H : AH) (h0 : H.ro ≤ H.size) (a b : Ten) (va vb : Value) (ha : TenV H va a) (hb : TenV H vb b) (ta : isT a = true) (tb' : isT b = true) (n : Int) :
    Runs tb 38 [.int .i64 9, .int .i64 n, va, vb] H (DoPost H (if a.1.length = 2 ∧ b.1.length = 2 ∧ gi a.1 1 = gi b.1 0 then ([gi a.1 0, gi b.1 1], matP (gi a.1 0).toNat (gi a.1 1).toNat (gi b.1 1).toNat a.2 b.2) else ([], [])) (if a.1.length = 2 ∧ b.1.length = 2 ∧ gi a.1 1 = gi b.1 0 then 0 else 4)) := by
  obtain ⟨ad, ax, rfl, had, hax⟩ := id ha
  obtain ⟨bd, bx, rfl, hbd, hbx⟩ := id hb
  obtain ⟨pa, ca, rfl⟩ := had.inv
  obtain ⟨pb, cb, rfl⟩ := hbd.inv
  obtain ⟨qa, da, rfl⟩ := hax.inv
  obtain ⟨qb, db, rfl⟩ := hbx.inv
  refine Runs_fn (fn := Try.f38) [.cell 8 32, .tmp 9] [0, 1, 2, 3, 6, 7, 8, 9, 10] [] 3000 (by kernel_rfl) rfl (by kernel_rfl) (by kernel_rfl) rfl ?_; simp only [pad, argAt]
  simp (disch := omega) only [go_sem, Nat.reduceEqDiff, Nat.reduceAdd, ↓reduceIte, get_pushB, get_putB, pickB_t, pickB_f, eqB_t, eqB_f, ltB_t, leB_t, AH.size_push, AH.size_put, AH.ro_push, AH.ro_put, Int.reduceEq, decide_true, decide_false]
  refine callW_gen ?_
  intro G hG
  have hE : Ext H G := by rw [hG]; exact ((Ext.push _ _).pushed _).pushed _
  have hr := hE.ro
  have hs := hE.size
  have hsz : G.size = H.size + 3 := by rw [hG]; rfl
  have g0 : G.get (H.size + 1 + 1) = some [.slice none 0 0, .slice none 0 0] := by rw [hG]; (try simp (disch := omega) only [get_pushB, get_putB, pickB_t, pickB_f, eqB_t, eqB_f, ltB_t, AH.size_push, AH.size_put, AH.ro_push, AH.ro_put])
  clear hG
  refine callW_of (Mul2_ok G (by omega) a b _ _ (TenV.mono hE ha) (TenV.mono hE hb) ta tb') ?_
  rintro r G4 ⟨u, rfl, hot, hE4⟩
  obtain ⟨vu, wu, rfl, hu1, hu2, _⟩ := id hot
  obtain ⟨pu, cu, rfl⟩ := hu1.ints.inv
  obtain ⟨pw, cw, rfl⟩ := hu2.ints.inv
  have q0 := hE4.get _ _ g0
  have hr4 := hE4.ro
  have hs4 := hE4.size
  simp (disch := omega) only [go_sem, Nat.reduceEqDiff, Nat.reduceAdd, ↓reduceIte, get_pushB, get_putB, pickB_t, pickB_f, eqB_t, eqB_f, ltB_t, leB_t, AH.size_push, AH.size_put, AH.ro_push, AH.ro_put, q0]
  exact ⟨_, rfl, hot.out hE h0 (by omega) _, (hE.trans hE4).put (by omega) (by omega) _⟩
theorem KindOk9 : KindOk 9 (fun n d l => matP (gi (l.getD 0 ([], [])).1 0).toNat (gi (l.getD 0 ([], [])).1 1).toNat (gi (l.getD 1 ([], [])).1 1).toNat (l.getD 0 ([], [])).2 (l.getD 1 ([], [])).2) where
  fill h := by omega
  one n d l h hl := by have := (doOk_form h).2.2.2.2; simp [manyP] at this; omega
  two n d l h hl G u w h0 hu hw := by
    have hA := (doOk_form h).2.2.1
    have := dbl9_ok G h0 _ _ u w hu hw (all_getD hA (by omega)) (all_getD hA (by omega)) n
    have e : doE (fun n d l => matP (gi (l.getD 0 ([], [])).1 0).toNat (gi (l.getD 0 ([], [])).1 1).toNat (gi (l.getD 1 ([], [])).1 1).toNat (l.getD 0 ([], [])).2 (l.getD 1 ([], [])).2) 9 n d l = (if (l.getD 0 ([], [])).1.length = 2 ∧ (l.getD 1 ([], [])).1.length = 2 ∧ gi (l.getD 0 ([], [])).1 1 = gi (l.getD 1 ([], [])).1 0 then (([gi (l.getD 0 ([], [])).1 0, gi (l.getD 1 ([], [])).1 1], matP (gi (l.getD 0 ([], [])).1 0).toNat (gi (l.getD 0 ([], [])).1 1).toNat (gi (l.getD 1 ([], [])).1 1).toNat (l.getD 0 ([], [])).2 (l.getD 1 ([], [])).2), 0) else (([], []), 4)) := by
      simp only [doE, h, if_true, dimsP, map_getD]
      simp only [Int.reduceEq, or_self, or_false, or_true, false_or, if_true, if_false]
      by_cases hC : (l.getD 0 ([], [])).1.length = 2 ∧ (l.getD 1 ([], [])).1.length = 2 ∧ gi (l.getD 0 ([], [])).1 1 = gi (l.getD 1 ([], [])).1 0
      · simp only [if_pos hC]
      · simp only [if_neg hC]
    rw [e]
    split
    · rename_i hc; simp only [if_pos hc] at this; exact this
    · rename_i hc; simp only [if_neg hc] at this; exact this
  ref n d l x h hx G vd vl h0 hd hl := by
    have hA := (doOk_form h).2.2.1
    have hm := (doOk_form h).2.2.2.2
    have hlen : l.length = 2 := by simp [manyP] at hm; omega
    have hx2 : ((l.getD 0 ([], [])).1.length = 2 ∧ (l.getD 1 ([], [])).1.length = 2 ∧ gi (l.getD 0 ([], [])).1 1 = gi (l.getD 1 ([], [])).1 0) ∧ x = [gi (l.getD 0 ([], [])).1 0, gi (l.getD 1 ([], [])).1 1] := by
      simp only [dimsP, map_getD] at hx
      simp only [Int.reduceEq, or_self, or_false, or_true, false_or, if_true, if_false] at hx
      split at hx
      · rename_i hc; cases hx; exact ⟨hc, rfl⟩
      · cases hx
    obtain ⟨hC, rfl⟩ := hx2
    obtain ⟨pl, cl, rfl⟩ := hl.inv
    have ta := all_getD hA (i := 0) (by omega)
    have tb' := all_getD hA (i := 1) (by omega)
    have hP := Ext.push G [.slice none 0 0, .slice none 0 0]
    have hlP := Tens.mono hP hl
    obtain ⟨u0, hu0, ht0⟩ := ldT0 hl (by omega)
    have hu0 := fun (H' : AH) (hE' : Ext G H') => aload_ext hE' hu0
    obtain ⟨u1, hu1, ht1⟩ := ldT1 hl (by omega)
    have hu1 := fun (H' : AH) (hE' : Ext G H') => aload_ext hE' hu1
    refine Runs_fn (fn := Try.f48) [.cell 8 32] [0, 1, 2, 3, 8, 9] [(19, [(5, 1)])] 3000 (by kernel_rfl) rfl (by kernel_rfl) (by kernel_rfl) rfl ?_; simp only [pad, argAt]
    simp (disch := omega) only [go_sem, Nat.reduceEqDiff, Nat.reduceAdd, ↓reduceIte, get_pushB, get_putB, pickB_t, pickB_f, eqB_t, eqB_f, ltB_t, leB_t, AH.size_push, AH.size_put, AH.ro_push, AH.ro_put, Int.reduceEq, decide_true, decide_false, ixT hlP, hu0 _ hP, hu1 _ hP]
    refine callW_gen ?_
    intro G1 hG
    have hE : Ext G G1 := by rw [hG]; exact Ext.push _ _
    have g0 : G1.get G.size = some [.slice none 0 0, .slice none 0 0] := by rw [hG]; (try simp (disch := omega) only [get_pushB, get_putB, pickB_t, pickB_f, eqB_t, eqB_f, ltB_t, AH.size_push, AH.size_put, AH.ro_push, AH.ro_put])
    have hs : G1.size = G.size + 1 := by rw [hG]; rfl
    have hr := hE.ro
    clear hG
    refine callW_of (RefMat_ok G1 (by omega) _ _ u0 u1 (TenV.mono hE ht0) (TenV.mono hE ht1) ta tb' hC.1 hC.2.1 hC.2.2) ?_
    rintro r H1 ⟨hot, hE1⟩
    obtain ⟨vu, wu, rfl, hu1, hu2, _⟩ := id hot
    obtain ⟨pu, cu, rfl⟩ := hu1.ints.inv
    obtain ⟨pw, cw, rfl⟩ := hu2.ints.inv
    have q0 := hE1.get _ _ g0
    have hr1 := hE1.ro
    have hs1 := hE1.size
    simp (disch := omega) only [go_sem, Nat.reduceEqDiff, Nat.reduceAdd, ↓reduceIte, get_pushB, get_putB, pickB_t, pickB_f, eqB_t, eqB_f, ltB_t, leB_t, AH.size_push, AH.size_put, AH.ro_push, AH.ro_put, q0]
    exact ⟨hot.out hE h0 (by omega) _, (hE.trans hE1).put (Nat.le_refl _) (by omega) _⟩
theorem sgl10_ok (H : AH) (h0 : H.ro ≤ H.size) (a : Ten) (va : Value) (ha : TenV H va a) (ta : isT a = true) (n : Int) (d : List Int) (vd : Value) (hdd : Ints H vd d) :
    Runs tb 39 [.int .i64 10, .int .i64 n, vd, va] H (DoPost H (if a.1.length = 2 then ([gi a.1 1, gi a.1 0], turnP (gi a.1 0).toNat (gi a.1 1).toNat a.2) else ([], [])) (if a.1.length = 2 then 0 else 4)) := by
  obtain ⟨ad, ax, rfl, had, hax⟩ := id ha
  obtain ⟨pa, ca, rfl⟩ := had.inv
  obtain ⟨qa, da, rfl⟩ := hax.inv
  refine Runs_fn (fn := Try.f39) [.cell 8 32, .tmp 9] [0, 1, 2, 3, 7, 8, 9, 10] [] 3000 (by kernel_rfl) rfl (by kernel_rfl) (by kernel_rfl) rfl ?_; simp only [pad, argAt]
  simp (disch := omega) only [go_sem, Nat.reduceEqDiff, Nat.reduceAdd, ↓reduceIte, get_pushB, get_putB, pickB_t, pickB_f, eqB_t, eqB_f, ltB_t, leB_t, AH.size_push, AH.size_put, AH.ro_push, AH.ro_put, Int.reduceEq, decide_true, decide_false]
  refine callW_gen ?_
  intro G hG
  have hE : Ext H G := by rw [hG]; exact (Ext.push _ _).pushed _
  have hr := hE.ro
  have hs := hE.size
  have hsz : G.size = H.size + 2 := by rw [hG]; rfl
  have g0 : G.get (H.size + 1) = some [.slice none 0 0, .slice none 0 0] := by rw [hG]; (try simp (disch := omega) only [get_pushB, get_putB, pickB_t, pickB_f, eqB_t, eqB_f, ltB_t, AH.size_push, AH.size_put, AH.ro_push, AH.ro_put])
  clear hG
  refine callW_of (Turn_ok G (by omega) a _ (TenV.mono hE ha) ta) ?_
  rintro r G4 ⟨u, rfl, hot, hE4⟩
  obtain ⟨vu, wu, rfl, hu1, hu2, _⟩ := id hot
  obtain ⟨pu, cu, rfl⟩ := hu1.ints.inv
  obtain ⟨pw, cw, rfl⟩ := hu2.ints.inv
  have q0 := hE4.get _ _ g0
  have hr4 := hE4.ro
  have hs4 := hE4.size
  simp (disch := omega) only [go_sem, Nat.reduceEqDiff, Nat.reduceAdd, ↓reduceIte, get_pushB, get_putB, pickB_t, pickB_f, eqB_t, eqB_f, ltB_t, leB_t, AH.size_push, AH.size_put, AH.ro_push, AH.ro_put, q0]
  exact ⟨_, rfl, hot.out hE h0 (by omega) _, (hE.trans hE4).put (by omega) (by omega) _⟩
theorem KindOk10 : KindOk 10 (fun n d l => turnP (gi (l.getD 0 ([], [])).1 0).toNat (gi (l.getD 0 ([], [])).1 1).toNat (l.getD 0 ([], [])).2) where
  fill h := by omega
  two n d l h hl := by have := (doOk_form h).2.2.2.2; simp [manyP] at this; omega
  one n d l h hl G u vd h0 hd hu := by
    have hA := (doOk_form h).2.2.1
    have := sgl10_ok G h0 _ u hu (all_getD hA (by omega)) n d vd hd
    have e : doE (fun n d l => turnP (gi (l.getD 0 ([], [])).1 0).toNat (gi (l.getD 0 ([], [])).1 1).toNat (l.getD 0 ([], [])).2) 10 n d l = (if (l.getD 0 ([], [])).1.length = 2 then (([gi (l.getD 0 ([], [])).1 1, gi (l.getD 0 ([], [])).1 0], turnP (gi (l.getD 0 ([], [])).1 0).toNat (gi (l.getD 0 ([], [])).1 1).toNat (l.getD 0 ([], [])).2), 0) else (([], []), 4)) := by
      simp only [doE, h, if_true, dimsP, map_getD]
      simp only [Int.reduceEq, or_self, or_false, or_true, false_or, if_true, if_false]
      by_cases hC : (l.getD 0 ([], [])).1.length = 2
      · simp only [if_pos hC]
      · simp only [if_neg hC]
    rw [e]
    split
    · rename_i hc; simp only [if_pos hc] at this; exact this
    · rename_i hc; simp only [if_neg hc] at this; exact this
  ref n d l x h hx G vd vl h0 hd hl := by
    have hA := (doOk_form h).2.2.1
    have hm := (doOk_form h).2.2.2.2
    have hlen : l.length = 1 := by simp [manyP] at hm; omega
    have hx2 : ((l.getD 0 ([], [])).1.length = 2) ∧ x = [gi (l.getD 0 ([], [])).1 1, gi (l.getD 0 ([], [])).1 0] := by
      simp only [dimsP, map_getD] at hx
      simp only [Int.reduceEq, or_self, or_false, or_true, false_or, if_true, if_false] at hx
      split at hx
      · rename_i hc; cases hx; exact ⟨hc, rfl⟩
      · cases hx
    obtain ⟨hC, rfl⟩ := hx2
    obtain ⟨pl, cl, rfl⟩ := hl.inv
    have ta := all_getD hA (i := 0) (by omega)
    have hP := Ext.push G [.slice none 0 0, .slice none 0 0]
    have hlP := Tens.mono hP hl
    obtain ⟨u0, hu0, ht0⟩ := ldT0 hl (by omega)
    have hu0 := fun (H' : AH) (hE' : Ext G H') => aload_ext hE' hu0
    refine Runs_fn (fn := Try.f48) [.cell 8 32] [0, 1, 2, 3, 8, 9] [(19, [(5, 1)])] 3000 (by kernel_rfl) rfl (by kernel_rfl) (by kernel_rfl) rfl ?_; simp only [pad, argAt]
    simp (disch := omega) only [go_sem, Nat.reduceEqDiff, Nat.reduceAdd, ↓reduceIte, get_pushB, get_putB, pickB_t, pickB_f, eqB_t, eqB_f, ltB_t, leB_t, AH.size_push, AH.size_put, AH.ro_push, AH.ro_put, Int.reduceEq, decide_true, decide_false, ixT hlP, hu0 _ hP]
    refine callW_gen ?_
    intro G1 hG
    have hE : Ext G G1 := by rw [hG]; exact Ext.push _ _
    have g0 : G1.get G.size = some [.slice none 0 0, .slice none 0 0] := by rw [hG]; (try simp (disch := omega) only [get_pushB, get_putB, pickB_t, pickB_f, eqB_t, eqB_f, ltB_t, AH.size_push, AH.size_put, AH.ro_push, AH.ro_put])
    have hs : G1.size = G.size + 1 := by rw [hG]; rfl
    have hr := hE.ro
    clear hG
    refine callW_of (RefTurn_ok G1 (by omega) _ u0 (TenV.mono hE ht0) ta hC) ?_
    rintro r H1 ⟨hot, hE1⟩
    obtain ⟨vu, wu, rfl, hu1, hu2, _⟩ := id hot
    obtain ⟨pu, cu, rfl⟩ := hu1.ints.inv
    obtain ⟨pw, cw, rfl⟩ := hu2.ints.inv
    have q0 := hE1.get _ _ g0
    have hr1 := hE1.ro
    have hs1 := hE1.size
    simp (disch := omega) only [go_sem, Nat.reduceEqDiff, Nat.reduceAdd, ↓reduceIte, get_pushB, get_putB, pickB_t, pickB_f, eqB_t, eqB_f, ltB_t, leB_t, AH.size_push, AH.size_put, AH.ro_push, AH.ro_put, q0]
    exact ⟨hot.out hE h0 (by omega) _, (hE.trans hE1).put (Nat.le_refl _) (by omega) _⟩
end Go.Proofs.K
