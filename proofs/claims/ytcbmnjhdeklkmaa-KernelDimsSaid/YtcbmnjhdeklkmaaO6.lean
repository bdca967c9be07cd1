/- The first greatest of some numbers. -/
import Derived.Test.YtcbmnjhdeklkmaaO5
set_option linter.unusedVariables false
set_option maxRecDepth 8000
set_option maxHeartbeats 4000000
set_option linter.unusedSimpArgs false
namespace Go.Proofs.K
open Go Go.Ab
def fstStep (l : List Int) : Nat → Nat → Nat := fun i k => if gi l (k : Int) < gi l (i : Int) then i else k
/-- Where the first greatest of the first so many is. -/
def fstP (l : List Int) (n : Nat) : Nat := iter (fstStep l) n 0
theorem fstP_lt (l : List Int) : ∀ (n : Nat), 1 ≤ n → fstP l n < n
  | 0, h => by omega
  | 1, _ => by show (if _ then 0 else 0) < 1; split <;> omega
  | n + 2, _ => by
    have := fstP_lt l (n + 1) (by omega)
    show fstStep l (n + 1) (fstP l (n + 1)) < _
    unfold fstStep; split <;> omega
theorem fstP_max (l : List Int) : ∀ (n : Nat), (∀ j, j < n → gi l (j : Int) ≤ gi l (fstP l n : Int)) ∧ (∀ j, j < fstP l n → gi l (j : Int) < gi l (fstP l n : Int))
  | 0 => ⟨fun j h => by omega, fun j h => by simp [fstP, iter] at h⟩
  | n + 1 => by
    obtain ⟨h1, h2⟩ := fstP_max l n
    have e : fstP l (n + 1) = fstStep l n (fstP l n) := rfl
    rw [e]
    unfold fstStep
    split
    · rename_i h
      refine ⟨fun j hj => ?_, fun j hj => ?_⟩
      · by_cases hjn : j = n
        · subst hjn; exact Int.le_refl _
        · have := h1 j (by omega); omega
      · have := h1 j hj; omega
    · rename_i h
      refine ⟨fun j hj => ?_, h2⟩
      by_cases hjn : j = n
      · subst hjn; omega
      · exact h1 j (by omega)
theorem First_ok (H : AH) (l : List Int) (v : Value) (h : Ints H v l) (hl : 1 ≤ l.length) : Runs tb 114 [v] H (fun r H' => r = .int .i64 (fstP l l.length) ∧ H' = H) := by
  have bd := h.bd
  obtain ⟨p, c, rfl⟩ := h.inv
  refine Runs_fn (fn := Try.f114) [.tmp 2] [0, 2, 3, 4] [] 3000 (by kernel_rfl) rfl (by kernel_rfl) (by kernel_rfl) rfl ?_; simp only [pad, argAt]
  simp (disch := omega) only [go_sem, Nat.reduceEqDiff, Nat.reduceAdd, ↓reduceIte, get_pushB, get_putB, pickB_t, pickB_f, eqB_t, eqB_f, ltB_t, leB_t, AH.size_push, AH.size_put, AH.ro_push, AH.ro_put]
  refine Sat_loop 3000 (fun k H' V => ∃ (i : Nat) (x2 : Value), i ≤ l.length ∧ k = l.length - i ∧ H' = H ∧ V = [.slice p l.length c, x2, .int .i64 (fstP l i), .int .i64 i]) l.length ⟨0, _, by omega, by omega, rfl, rfl⟩ ?_
  rintro k H' V ⟨i, x2, hi, rfl, rfl, rfl⟩ ih
  have hf : fstP l i < l.length := by
    by_cases h0 : i = 0
    · subst h0; exact hl
    · have := fstP_lt l i (by omega); omega
  simp (disch := omega) only [go_sem, Nat.reduceEqDiff, Nat.reduceAdd, ↓reduceIte, get_pushB, get_putB, pickB_t, pickB_f, eqB_t, eqB_f, ltB_t, leB_t, AH.size_push, AH.size_put, AH.ro_push, AH.ro_put]
  refine Split.mk (fun h1 => ?_) (fun h1 => ?_)
  · have hi2 : i < l.length := by omega
    simp (disch := omega) only [go_sem, Nat.reduceEqDiff, Nat.reduceAdd, ↓reduceIte, get_pushB, get_putB, pickB_t, pickB_f, eqB_t, eqB_f, ltB_t, leB_t, AH.size_push, AH.size_put, AH.ro_push, AH.ro_put, ixI h, ldI h]
    have e : fstP l (i + 1) = if gi l (fstP l i : Int) < gi l (i : Int) then i else fstP l i := rfl
    refine Split.mk (fun h2 => ?_) (fun h2 => ?_)
    · rw [if_pos (by omega)] at e
      simp (disch := omega) only [go_sem, Nat.reduceEqDiff, Nat.reduceAdd, ↓reduceIte, get_pushB, get_putB, pickB_t, pickB_f, eqB_t, eqB_f, ltB_t, leB_t, AH.size_push, AH.size_put, AH.ro_push, AH.ro_put]
      refine ih _ _ _ ?_ ⟨i + 1, _, ?_, rfl, rfl, by rw [e]; rfl⟩
      · omega
      · omega
    · rw [if_neg (by omega)] at e
      simp (disch := omega) only [go_sem, Nat.reduceEqDiff, Nat.reduceAdd, ↓reduceIte, get_pushB, get_putB, pickB_t, pickB_f, eqB_t, eqB_f, ltB_t, leB_t, AH.size_push, AH.size_put, AH.ro_push, AH.ro_put]
      refine ih _ _ _ ?_ ⟨i + 1, _, ?_, rfl, rfl, by rw [e]; rfl⟩
      · omega
      · omega
  · have hil : i = l.length := by omega
    subst hil
    simp (disch := omega) only [go_sem, Nat.reduceEqDiff, Nat.reduceAdd, ↓reduceIte, get_pushB, get_putB, pickB_t, pickB_f, eqB_t, eqB_f, ltB_t, leB_t, AH.size_push, AH.size_put, AH.ro_push, AH.ro_put]
theorem amax2 (k : IntKind) (x y : Int) : amax true (.int k x) [.int k y] = some (.int k (if y > x then y else x)) := by rfl
theorem Max_ok (H : AH) (l : List Int) (v : Value) (h : Ints H v l) (hl : 1 ≤ l.length) : Runs tb 110 [v] H (fun r H' => r = .int .i64 (gi l (fstP l l.length : Int)) ∧ H' = H) := by
  have bd := h.bd
  obtain ⟨p, c, rfl⟩ := h.inv
  refine Runs_fn (fn := Try.f110) [.tmp 2] [0, 2, 3, 4] [] 3000 (by kernel_rfl) rfl (by kernel_rfl) (by kernel_rfl) rfl ?_; simp only [pad, argAt]
  simp (disch := omega) only [go_sem, Nat.reduceEqDiff, Nat.reduceAdd, ↓reduceIte, get_pushB, get_putB, pickB_t, pickB_f, eqB_t, eqB_f, ltB_t, leB_t, AH.size_push, AH.size_put, AH.ro_push, AH.ro_put]
  simp (disch := omega) only [go_sem, Nat.reduceEqDiff, Nat.reduceAdd, ↓reduceIte, get_pushB, get_putB, pickB_t, pickB_f, eqB_t, eqB_f, ltB_t, leB_t, AH.size_push, AH.size_put, AH.ro_push, AH.ro_put, ixI h, ldI h]
  have e0 : gi l 0 = gi l (fstP l 1 : Int) := by
    have : fstP l 1 = 0 := by have := fstP_lt l 1 (by omega); omega
    rw [this]; rfl
  rw [e0]
  refine Sat_loop 3000 (fun k H' V => ∃ (i : Nat) (x2 : Value), 1 ≤ i ∧ i ≤ l.length ∧ k = l.length - i ∧ H' = H ∧ V = [.slice p l.length c, x2, .int .i64 (gi l (fstP l i : Int)), .int .i64 i]) (l.length - 1) ⟨1, _, by omega, by omega, by omega, rfl, rfl⟩ ?_
  rintro k H' V ⟨i, x2, hi1, hi, rfl, rfl, rfl⟩ ih
  simp (disch := omega) only [go_sem, Nat.reduceEqDiff, Nat.reduceAdd, ↓reduceIte, get_pushB, get_putB, pickB_t, pickB_f, eqB_t, eqB_f, ltB_t, leB_t, AH.size_push, AH.size_put, AH.ro_push, AH.ro_put]
  refine Split.mk (fun h1 => ?_) (fun h1 => ?_)
  · have hi2 : i < l.length := by omega
    have e : fstP l (i + 1) = if gi l (fstP l i : Int) < gi l (i : Int) then i else fstP l i := rfl
    have e2 : (if gi l (i : Int) > gi l (fstP l i : Int) then gi l (i : Int) else gi l (fstP l i : Int)) = gi l (fstP l (i + 1) : Int) := by
      rw [e]; split <;> rfl
    simp (disch := omega) only [go_sem, Nat.reduceEqDiff, Nat.reduceAdd, ↓reduceIte, get_pushB, get_putB, pickB_t, pickB_f, eqB_t, eqB_f, ltB_t, leB_t, AH.size_push, AH.size_put, AH.ro_push, AH.ro_put, ixI h, ldI h, amax2, e2]
    refine ih _ _ _ ?_ ⟨i + 1, _, by omega, ?_, rfl, rfl, rfl⟩
    · omega
    · omega
  · have hil : i = l.length := by omega
    subst hil
    simp (disch := omega) only [go_sem, Nat.reduceEqDiff, Nat.reduceAdd, ↓reduceIte, get_pushB, get_putB, pickB_t, pickB_f, eqB_t, eqB_f, ltB_t, leB_t, AH.size_push, AH.size_put, AH.ro_push, AH.ro_put]
theorem Index_ok (H : AH) (l : List Int) (x : Int) (v : Value) (h : Ints H v l) : Runs tb 117 [v, .int .i64 x] H (fun r H' => r = .int .i64 (firstI (fun i => decide (x = gi l (i : Int))) l.length) ∧ H' = H) := by
  have bd := h.bd
  obtain ⟨a, c, rfl⟩ := h.inv
  refine Runs_fn (fn := Try.f117) [.tmp 4] [0, 1, 4, 5, 7, 8] [] 3000 (by kernel_rfl) rfl (by kernel_rfl) (by kernel_rfl) rfl ?_; simp only [pad, argAt]
  simp (disch := omega) only [go_sem, Nat.reduceEqDiff, Nat.reduceAdd, ↓reduceIte, get_pushB, get_putB, pickB_t, pickB_f, eqB_t, eqB_f, ltB_t, leB_t, AH.size_push, AH.size_put, AH.ro_push, AH.ro_put]
  refine Sat_loop 3000 (fun k H' V => ∃ (i : Nat) (y z : Value), i ≤ l.length ∧ k = l.length - i ∧ (∀ j, j < i → decide (x = gi l (j : Int)) = false) ∧ V = [.slice a l.length c, .int .i64 x, y, z, .int .i64 l.length, .int .i64 i] ∧ H' = H) l.length ⟨0, _, _, by omega, by omega, by omega, rfl, rfl⟩ ?_
  rintro k H' V ⟨i, y, z, hi, rfl, hj, rfl, rfl⟩ ih
  simp (disch := omega) only [go_sem, Nat.reduceEqDiff, Nat.reduceAdd, ↓reduceIte, get_pushB, get_putB, pickB_t, pickB_f, eqB_t, eqB_f, ltB_t, leB_t, AH.size_push, AH.size_put, AH.ro_push, AH.ro_put]
  refine Split.mk (fun h1 => ?_) (fun h1 => ?_)
  · simp (disch := omega) only [go_sem, Nat.reduceEqDiff, Nat.reduceAdd, ↓reduceIte, get_pushB, get_putB, pickB_t, pickB_f, eqB_t, eqB_f, ltB_t, leB_t, AH.size_push, AH.size_put, AH.ro_push, AH.ro_put, ixI h, ldI h]
    refine Split.mk (fun h2 => ?_) (fun h2 => ?_)
    · simp (disch := omega) only [go_sem, Nat.reduceEqDiff, Nat.reduceAdd, ↓reduceIte, get_pushB, get_putB, pickB_t, pickB_f, eqB_t, eqB_f, ltB_t, leB_t, AH.size_push, AH.size_put, AH.ro_push, AH.ro_put]
      refine ⟨?_, trivial⟩
      rw [firstI_at (i := i) (by omega) (by simpa using h2) hj]
    · simp (disch := omega) only [go_sem, Nat.reduceEqDiff, Nat.reduceAdd, ↓reduceIte, get_pushB, get_putB, pickB_t, pickB_f, eqB_t, eqB_f, ltB_t, leB_t, AH.size_push, AH.size_put, AH.ro_push, AH.ro_put]
      refine ih _ _ _ ?_ ⟨i + 1, _, _, ?_, rfl, ?_, rfl, rfl⟩
      · omega
      · omega
      · intro j hj'
        by_cases e : j < i
        · exact hj j e
        · obtain rfl : j = i := by omega
          simpa using h2
  · simp (disch := omega) only [go_sem, Nat.reduceEqDiff, Nat.reduceAdd, ↓reduceIte, get_pushB, get_putB, pickB_t, pickB_f, eqB_t, eqB_f, ltB_t, leB_t, AH.size_push, AH.size_put, AH.ro_push, AH.ro_put]
    refine ⟨?_, trivial⟩
    rw [firstI_none fun j hj' => hj j (by omega)]
theorem greatest_ok (H : AH) (l : List Int) (v : Value) (h : Ints H v l) (hl : 1 ≤ l.length) : Runs tb 107 [v] H (fun r H' => r = .int .i64 (fstP l l.length) ∧ H' = H) := by
  obtain ⟨a, c, rfl⟩ := id h.inv
  refine Runs_fn (fn := Try.f107) [.tmp 2] [0, 2] [] 3000 (by kernel_rfl) rfl (by kernel_rfl) (by kernel_rfl) rfl ?_; simp only [pad, argAt]
  simp (disch := omega) only [go_sem, Nat.reduceEqDiff, Nat.reduceAdd, ↓reduceIte, get_pushB, get_putB, pickB_t, pickB_f, eqB_t, eqB_f, ltB_t, leB_t, AH.size_push, AH.size_put, AH.ro_push, AH.ro_put]
  refine callW_of (Max_ok H l _ h hl) ?_
  rintro r G ⟨rfl, rfl⟩
  simp (disch := omega) only [go_sem, Nat.reduceEqDiff, Nat.reduceAdd, ↓reduceIte, get_pushB, get_putB, pickB_t, pickB_f, eqB_t, eqB_f, ltB_t, leB_t, AH.size_push, AH.size_put, AH.ro_push, AH.ro_put]
  refine callW_of (Index_ok G l _ _ h) ?_
  rintro r G2 ⟨rfl, rfl⟩
  simp (disch := omega) only [go_sem, Nat.reduceEqDiff, Nat.reduceAdd, ↓reduceIte, get_pushB, get_putB, pickB_t, pickB_f, eqB_t, eqB_f, ltB_t, leB_t, AH.size_push, AH.size_put, AH.ro_push, AH.ro_put]
  refine ⟨?_, trivial⟩
  have h1 := fstP_lt l l.length hl
  obtain ⟨h2, h3⟩ := fstP_max l l.length
  rw [firstI_at (i := fstP l l.length) h1 (by simp) fun j hj => ?_]
  have := h3 j hj
  rw [decide_eq_false_iff_not]
  omega
theorem asked_ok (H : AH) (h0 : H.ro ≤ H.size) (a : Ten) (n : Int) (va : Value) (ha : TenV H va a) (ta : isT a = true) (hn : 1 ≤ n ∧ n ≤ 8) : Runs tb 106 [va, .int .i64 n] H (fun r H' => ∃ u, r = .tuple #[u, .int .i64 (if lessOk a.1 n then 0 else 4)] ∧ (lessOk a.1 n = true → OwnI H H' u (lessP a.1 n)) ∧ (lessOk a.1 n = false → u = .slice none 0 0) ∧ Ext H H') := by
  obtain ⟨ad, ax, rfl, had, hax⟩ := id ha
  obtain ⟨ma, lp, la⟩ := isT_spec ta
  obtain ⟨pa, ca, rfl⟩ := had.inv
  refine Runs_fn (fn := Try.f106) [.tmp 4, .tmp 5] [0, 1, 2, 4, 5, 6, 7] [] 3000 (by kernel_rfl) rfl (by kernel_rfl) (by kernel_rfl) rfl ?_; simp only [pad, argAt]
  simp (disch := omega) only [go_sem, Nat.reduceEqDiff, Nat.reduceAdd, ↓reduceIte, get_pushB, get_putB, pickB_t, pickB_f, eqB_t, eqB_f, ltB_t, leB_t, AH.size_push, AH.size_put, AH.ro_push, AH.ro_put]
  refine callW_gen ?_
  intro G hG
  have hE : Ext H G := by rw [hG]; exact Ext.push _ _
  have hr := hE.ro
  have hs := hE.size
  have ga : G.get H.size = some [.slice pa a.1.length ca, ax] := by rw [hG]; (try simp (disch := omega) only [get_pushB, get_putB, pickB_t, pickB_f, eqB_t, eqB_f, ltB_t, AH.size_push, AH.size_put, AH.ro_push, AH.ro_put])
  clear hG
  refine callW_of (Is_ok G a _ (TenV.mono hE ha)) ?_
  rintro r G1 ⟨rfl, hE1⟩
  have hr1 := hE1.ro
  have hs1 := hE1.size
  have ga := hE1.get _ _ ga
  have hE := hE.trans hE1
  simp (disch := omega) only [go_sem, Nat.reduceEqDiff, Nat.reduceAdd, ↓reduceIte, get_pushB, get_putB, pickB_t, pickB_f, eqB_t, eqB_f, ltB_t, leB_t, AH.size_push, AH.size_put, AH.ro_push, AH.ro_put, ta, ga]
  refine callW_of (Less_ok G1 (by omega) a.1 n _ (Ints.mono hE had) ma hn) ?_
  rintro r G2 ⟨u, rfl, hu1, hu2, hE2⟩
  have hEx := hE.trans hE2
  by_cases e : lessOk a.1 n = true
  · have ho := hu1 e
    obtain ⟨pu, cu, rfl⟩ := (OwnI.ints ho).inv
    rw [if_pos e]
    simp (disch := omega) only [go_sem, Nat.reduceEqDiff, Nat.reduceAdd, ↓reduceIte, get_pushB, get_putB, pickB_t, pickB_f, eqB_t, eqB_f, ltB_t, leB_t, AH.size_push, AH.size_put, AH.ro_push, AH.ro_put, e]
    exact ⟨_, rfl, fun _ => OwnI.weak ho hE.size hE.ro h0, fun h => h.elim, hEx⟩
  · have e' : lessOk a.1 n = false := by simpa using e
    have := hu2 e'
    subst this
    rw [if_neg e]
    simp (disch := omega) only [go_sem, Nat.reduceEqDiff, Nat.reduceAdd, ↓reduceIte, get_pushB, get_putB, pickB_t, pickB_f, eqB_t, eqB_f, ltB_t, leB_t, AH.size_push, AH.size_put, AH.ro_push, AH.ro_put, e']
    exact ⟨_, rfl, fun h => h.elim, fun _ => rfl, hEx⟩
end Go.Proofs.K
set_option linter.unusedVariables false
set_option maxRecDepth 8000
set_option maxHeartbeats 4000000
set_option linter.unusedSimpArgs false
namespace Go.Proofs.K
open Go Go.Ab
theorem less_prod {d : List Int} {n : Int} (h : mayP d = true) (hn : 1 ≤ n ∧ n ≤ 8) (hl : lessOk d n = true) : prodL d = prodL (lessP d n) * n := by
  have hd : ∀ a : Int, a % n = 0 → a / n * n = a := fun a ha => by have := Int.mul_ediv_add_emod a n; rw [Int.mul_comm]; omega
  rcases mayP_cases h with ⟨a, rfl, ha⟩ | ⟨a, b, rfl, ha, hb⟩ | ⟨a, b, c, rfl, ha, hb, hc, hp⟩
  · have hl : a % n = 0 := by simpa [lessOk, lastI, gi] using hl
    have e : lessP [a] n = [a / n] := by simp [lessP, lastI, gi]
    have := less_bd ha hn hl
    rw [e, prodL_1 _ ha, prodL_1 _ (by omega), hd a hl]
  · have hl : b % n = 0 := by simpa [lessOk, lastI, gi] using hl
    have e : lessP [a, b] n = [a, b / n] := by simp [lessP, lastI, gi]
    have := less_bd hb hn hl
    rw [e, prodL_2 _ _ ha hb, prodL_2 _ _ ha (by omega), Int.mul_assoc, hd b hl]
  · have hl : c % n = 0 := by simpa [lessOk, lastI, gi] using hl
    have e : lessP [a, b, c] n = [a, b, c / n] := by simp [lessP, lastI, gi]
    have := less_bd hc hn hl
    rw [e, prodL_3 _ _ _ ha hb hc, prodL_3 _ _ _ ha hb (by omega), Int.mul_assoc (a * b), hd c hl]
/-- Some side by side. -/
def sideP (l : List Int) (n i : Nat) : List Int := (l.drop (i * n)).take n
theorem sideP_len {l : List Int} {n i M : Nat} (hl : l.length = M * n) (hi : i < M) : (sideP l n i).length = n := by
  have : (i + 1) * n ≤ M * n := Nat.mul_le_mul_right _ hi
  rw [Nat.succ_mul] at this
  simp [sideP]; omega
def greatP (l : List Int) (n i : Nat) : Nat := fstP (sideP l n i) n
def gmaxP (d l : List Int) (n : Int) : List Int := (List.range (prodL (lessP d n)).toNat).map fun (i : Nat) => gi (sideP l n.toNat i) (greatP l n.toNat i : Int)
theorem gmaxP_len (d l : List Int) (n : Int) : (gmaxP d l n).length = (prodL (lessP d n)).toNat := by simp [gmaxP]
theorem side_sl {H : AH} {a : Option Addr} {N c : Nat} {l : List Int} (h : Ints H (.slice a N c) l) {n i M : Nat} (hl : l.length = M * n) (hi : i < M) : ∃ a' c', aslice tb 23 (.slice a N c) (some (.int .i64 ((i : Int) * n))) (some (.int .i64 ((i : Int) * n + n))) = some (.slice a' n c') ∧ Ints H (.slice a' n c') (sideP l n i) := by
  have h1 : (i + 1) * n ≤ M * n := Nat.mul_le_mul_right _ hi
  rw [Nat.succ_mul] at h1
  have c1 : ((i * n : Nat) : Int) = (i : Int) * n := Int.natCast_mul ..
  have t1 : ((i : Int) * n).toNat = i * n := by omega
  have t2 : ((i : Int) * n + n).toNat = i * n + n := by omega
  obtain ⟨a', c', e, hs⟩ := Sl.sub h ty23 rfl ty3 rfl (some (.int .i64 ((i : Int) * n))) (some (.int .i64 ((i : Int) * n + n))) (i * n) (i * n + n) (by simp only [abound]; rw [if_pos (by omega), t2]) (by simp only [abound]; rw [if_pos (by omega), t1])
  rw [show i * n + n - i * n = n by omega] at e hs
  exact ⟨a', c', e, hs⟩
theorem GMax_ok (H : AH) (h0 : H.ro ≤ H.size) (a : Ten) (va : Value) (n : Int) (ha : TenV H va a) (ta : isT a = true) (hn : 1 ≤ n ∧ n ≤ 8) : Runs tb 77 [va, .int .i64 n] H (DoPost H (if lessOk a.1 n = true then (lessP a.1 n, gmaxP a.1 a.2 n) else ([], [])) (if lessOk a.1 n = true then 0 else 4)) := by
  obtain ⟨ad, ax, rfl, had, hax⟩ := id ha
  obtain ⟨ma, lp, la⟩ := isT_spec ta
  have hal := (mayP_spec ma).2.1
  obtain ⟨pa, ca, rfl⟩ := had.inv
  obtain ⟨qa, da, rfl⟩ := hax.inv
  refine Runs_fn (fn := Try.f77) [.cell 4 32, .tmp 5] [0, 1, 2, 4, 5, 6, 7, 8, 9, 24, 25] [(8, [(1, 14)])] 3000 (by kernel_rfl) rfl (by kernel_rfl) (by kernel_rfl) rfl ?_; simp only [pad, argAt]
  simp (disch := omega) only [go_sem, Nat.reduceEqDiff, Nat.reduceAdd, ↓reduceIte, get_pushB, get_putB, pickB_t, pickB_f, eqB_t, eqB_f, ltB_t, leB_t, AH.size_push, AH.size_put, AH.ro_push, AH.ro_put]
  refine callW_gen ?_
  intro G hG
  have hE : Ext H G := by rw [hG]; exact (Ext.push _ _).pushed _
  have hr := hE.ro
  have hs := hE.size
  have ga : G.get H.size = some [.slice pa a.1.length ca, .slice qa a.2.length da] := by rw [hG]; (try simp (disch := omega) only [get_pushB, get_putB, pickB_t, pickB_f, eqB_t, eqB_f, ltB_t, AH.size_push, AH.size_put, AH.ro_push, AH.ro_put])
  have g0 : G.get (H.size + 1) = some [.slice none 0 0, .slice none 0 0] := by rw [hG]; (try simp (disch := omega) only [get_pushB, get_putB, pickB_t, pickB_f, eqB_t, eqB_f, ltB_t, AH.size_push, AH.size_put, AH.ro_push, AH.ro_put])
  have hsz : G.size = H.size + 2 := by rw [hG]; rfl
  clear hG
  refine callW_of (asked_ok G (by omega) a n _ (TenV.mono hE ha) ta hn) ?_
  rintro r G1 ⟨u, rfl, hu1, hu2, hE1⟩
  have hr1 := hE1.ro
  have hs1 := hE1.size
  have ga := hE1.get _ _ ga
  have g0 := hE1.get _ _ g0
  have hEG := hE
  have hE := hE.trans hE1
  by_cases e : lessOk a.1 n = true
  · have hod0 := hu1 e
    have hdd : Ints G1 u (lessP a.1 n) := OwnI.ints hod0
    obtain ⟨pu, cu, rfl⟩ := hdd.inv
    have md := lessP_may ma hn e
    have hpr := less_prod ma hn e
    simp only [if_pos e]
    simp (disch := omega) only [go_sem, Nat.reduceEqDiff, Nat.reduceAdd, ↓reduceIte, get_pushB, get_putB, pickB_t, pickB_f, eqB_t, eqB_f, ltB_t, leB_t, AH.size_push, AH.size_put, AH.ro_push, AH.ro_put, decide_true, decide_false, not_true_eq_false, ne_eq, Int.reduceEq, not_false_eq_true]
    refine callW_of (New_ok G1 (by omega) (lessP a.1 n) _ hdd md) ?_
    rintro r G3 ⟨⟨nd, nx, rfl, hod, hox, hne⟩, hE3⟩
    have hr3 := hE3.ro
    have hs3 := hE3.size
    have hbd3 := Own.blk hod _ _ _ rfl
    have hbx3 := Own.blk hox _ _ _ rfl
    simp only at hbd3 hbx3
    have ga := hE3.get _ _ ga
    have g0 := hE3.get _ _ g0
    have hpd := prodL_pos md
    generalize hN : (prodL (lessP a.1 n)).toNat = N at *
    simp only [List.length_replicate] at hod hox ⊢
    simp (disch := omega) only [go_sem, Nat.reduceEqDiff, Nat.reduceAdd, ↓reduceIte, get_pushB, get_putB, pickB_t, pickB_f, eqB_t, eqB_f, ltB_t, leB_t, AH.size_push, AH.size_put, AH.ro_push, AH.ro_put]
    refine Sat_gen ?_
    intro G4 hG4
    have hE4 : Ext G3 G4 := by rw [hG4]; exact (Ext.push _ _).put (Nat.le_refl _) (by simp only [AH.size_push]; omega) _
    have hs4 : G4.size = G3.size + 1 := by rw [hG4]; rfl
    have kt : G4.get G3.size = some [.slice (some ⟨nd, 0, none⟩) (lessP a.1 n).length 1, .slice (some ⟨nx, 0, none⟩) N 1] := by rw [hG4]; (try simp (disch := omega) only [get_pushB, get_putB, pickB_t, pickB_f, eqB_t, eqB_f, ltB_t, AH.size_push, AH.size_put, AH.ro_push, AH.ro_put])
    have hr4 := hE4.ro
    clear hG4
    have ga := hE4.get _ _ ga
    have g0 := hE4.get _ _ g0
    have hEH := hE.trans (hE3.trans hE4)
    have hZl : (gmaxP a.1 a.2 n).length = N := by rw [gmaxP_len, hN]
    generalize hZ : gmaxP a.1 a.2 n = Z at *
    obtain ⟨m, rfl⟩ : ∃ m : Nat, n = m := ⟨n.toNat, by omega⟩
    have hNm : a.2.length = N * m := by
      have : (a.2.length : Int) = ((N * m : Nat) : Int) := by rw [lp, hpr, Int.natCast_mul, ← hN, Int.toNat_of_nonneg (by omega)]
      omega
    have hN64 : N * m ≤ 64 := by
      have := (prodL_pos ma).2; omega
    refine Sat_loop 3000 (fun k H' V => ∃ (i : Nat) (x9 : Value), i ≤ N ∧ k = N - i ∧ Fr nx G4 H' ∧ OwnI G1 H' (.slice (some ⟨nx, 0, none⟩) N 1) (Z.take i ++ List.replicate (N - i) 0) ∧ V = [.agg #[.slice pa a.1.length ca, .slice qa a.2.length da], .int .i64 m, .pointer (some ⟨H.size, 0, none⟩), .pointer (some ⟨H.size + 1, 0, none⟩), .int .i64 0, .slice pu (lessP a.1 m).length cu, .int .i64 0, .pointer (some ⟨G3.size, 0, none⟩), x9, .int .i64 N, .int .i64 i]) N ⟨0, _, by omega, by omega, Fr.refl _ _, by simpa using hox.ext hE4, rfl⟩ ?_
    rintro k H' V ⟨i, x9, hi, rfl, hF, ho, rfl⟩ ih
    have ja := hF.get _ _ (by omega) ga
    have jt := hF.get _ _ (by omega) kt
    have hrF := hF.ro
    have hsF := hF.size
    have hEF := hF.ext hEH (by omega)
    simp (disch := omega) only [go_sem, Nat.reduceEqDiff, Nat.reduceAdd, ↓reduceIte, get_pushB, get_putB, pickB_t, pickB_f, eqB_t, eqB_f, ltB_t, leB_t, AH.size_push, AH.size_put, AH.ro_push, AH.ro_put]
    refine Split.mk (fun h1 => ?_) (fun h1 => ?_)
    · have hi2 : i < N := by omega
      have hlen : (Z.take i ++ List.replicate (N - i) (0 : Int)).length = N := by simp; omega
      have hzi : gi (sideP a.2 m i) (greatP a.2 m i : Int) = Z[i]'(by omega) := by subst hZ; simp [gmaxP]
      obtain ⟨sa, sc, es, hs⟩ := side_sl (Ints.mono hEF hax) hNm hi2
      have hsl := sideP_len hNm hi2
      have b1 : aload tb 23 (.pointer (some ⟨G3.size, 1, none⟩)) H'.get = some (.slice (some ⟨nx, 0, none⟩) N 1) := by simp (disch := omega) only [go_sem, Nat.reduceEqDiff, Nat.reduceAdd, ↓reduceIte, get_pushB, get_putB, pickB_t, pickB_f, eqB_t, eqB_f, ltB_t, leB_t, AH.size_push, AH.size_put, AH.ro_push, AH.ro_put, jt]
      have b2 : aload tb 23 (.pointer (some ⟨H.size, 1, none⟩)) H'.get = some (.slice qa a.2.length da) := by simp (disch := omega) only [go_sem, Nat.reduceEqDiff, Nat.reduceAdd, ↓reduceIte, get_pushB, get_putB, pickB_t, pickB_f, eqB_t, eqB_f, ltB_t, leB_t, AH.size_push, AH.size_put, AH.ro_push, AH.ro_put, ja]
      have d1 : (i + 1) * m ≤ N * m := Nat.mul_le_mul_right _ hi2
      have d2 : ((i * m : Nat) : Int) = (i : Int) * m := Int.natCast_mul ..
      rw [Nat.succ_mul] at d1
      simp (disch := omega) only [go_sem, Nat.reduceEqDiff, Nat.reduceAdd, ↓reduceIte, get_pushB, get_putB, pickB_t, pickB_f, eqB_t, eqB_f, ltB_t, leB_t, AH.size_push, AH.size_put, AH.ro_push, AH.ro_put, ja, jt, es]
      refine ⟨by (repeat' apply And.intro) <;> first | trivial | exact Same.of b1 b1 (by simp [seqV, seq1]) | exact Same.of b2 b2 (by simp [seqV, seq1]), ?_⟩
      refine callW_of (Max_ok H' (sideP a.2 m i) _ hs (by omega)) ?_
      rintro r H2 ⟨rfl, rfl⟩
      have hg : gi (sideP a.2 m i) (fstP (sideP a.2 m i) (sideP a.2 m i).length : Int) = Z[i]'(by omega) := by rw [hsl]; exact hzi
      rw [hg]
      obtain ⟨hst, ho2, hb1, hb2⟩ := ho.set i (Z[i]'(by omega)) (by omega)
      simp (disch := omega) only [go_sem, Nat.reduceEqDiff, Nat.reduceAdd, ↓reduceIte, get_pushB, get_putB, pickB_t, pickB_f, eqB_t, eqB_f, ltB_t, leB_t, AH.size_push, AH.size_put, AH.ro_push, AH.ro_put, ixI ho.ints, hst]
      refine ⟨by (repeat' apply And.intro) <;> first | trivial | exact Same.of b1 b1 (by simp [seqV, seq1]) | exact Same.of b2 b2 (by simp [seqV, seq1]), ?_⟩
      refine ih _ _ _ ?_ ⟨i + 1, .int .i64 i, ?_, rfl, hF.trans (Fr.put nx _ hb1 _), ?_, rfl⟩
      · omega
      · omega
      · have := take_step Z i (by omega)
        simp only [hZl] at this
        rw [← this]; exact ho2
    · have hiN : i = N := by omega
      subst hiN
      have j0 := hF.get _ _ (by omega) g0
      have ho : OwnI G1 H' (.slice (some ⟨nx, 0, none⟩) i 1) Z := by
        have := ho
        rw [List.take_of_length_le (by omega), Nat.sub_self] at this
        simpa using this
      have hod2 : OwnI G1 H' (.slice (some ⟨nd, 0, none⟩) (lessP a.1 m).length 1) (lessP a.1 m) := Own.fr (hod.ext hE4) hF (fun a n k e => by cases e; exact hne)
      have hT : OwnTD G1 H' (.agg #[.slice (some ⟨nd, 0, none⟩) (lessP a.1 m).length 1, .slice (some ⟨nx, 0, none⟩) i 1]) (lessP a.1 m, Z) := ⟨_, _, rfl, hod2, ho, fun a n k e b m j e2 => by cases e; cases e2; exact fun e => hne e.symm⟩
      simp (disch := omega) only [go_sem, Nat.reduceEqDiff, Nat.reduceAdd, ↓reduceIte, get_pushB, get_putB, pickB_t, pickB_f, eqB_t, eqB_f, ltB_t, leB_t, AH.size_push, AH.size_put, AH.ro_push, AH.ro_put, j0, jt]
      exact ⟨_, rfl, hT.out hE h0 (by omega) _, hEF.put (by omega) (by omega) _⟩
  · simp only [if_neg e]
    have := hu2 (by simpa using e)
    subst this
    simp (disch := omega) only [go_sem, Nat.reduceEqDiff, Nat.reduceAdd, ↓reduceIte, get_pushB, get_putB, pickB_t, pickB_f, eqB_t, eqB_f, ltB_t, leB_t, AH.size_push, AH.size_put, AH.ro_push, AH.ro_put, decide_true, decide_false, not_true_eq_false, ne_eq, Int.reduceEq, not_false_eq_true, abT0, g0]
    exact ⟨_, rfl, OwnTD.none _ _, Ext.put hE (by omega) (by omega) _⟩
theorem RefMax_ok (H : AH) (h0 : H.ro ≤ H.size) (a : Ten) (va : Value) (m : Nat) (ha : TenV H va a) (ta : isT a = true) (hn : 1 ≤ (m : Int) ∧ (m : Int) ≤ 8) (e : lessOk a.1 m = true) : Runs tb 96 [va, .int .i64 m] H (fun r H' => OwnTD H H' r (lessP a.1 m, gmaxP a.1 a.2 m) ∧ Ext H H') := by
  obtain ⟨ad, ax, rfl, had, hax⟩ := id ha
  obtain ⟨ma, lp, la⟩ := isT_spec ta
  obtain ⟨pa, ca, rfl⟩ := had.inv
  obtain ⟨qa, da, rfl⟩ := hax.inv
  have md := lessP_may ma hn e
  have hpr := less_prod ma hn e
  have hpd := prodL_pos md
  refine Runs_fn (fn := Try.f96) [.cell 4 32] [0, 1, 2, 4, 5, 6, 7] [(6, [(1, 5)])] 3000 (by kernel_rfl) rfl (by kernel_rfl) (by kernel_rfl) rfl ?_; simp only [pad, argAt]
  simp (disch := omega) only [go_sem, Nat.reduceEqDiff, Nat.reduceAdd, ↓reduceIte, get_pushB, get_putB, pickB_t, pickB_f, eqB_t, eqB_f, ltB_t, leB_t, AH.size_push, AH.size_put, AH.ro_push, AH.ro_put]
  refine callW_gen ?_
  intro G1 hG2
  have hE : Ext H G1 := by rw [hG2]; exact (Ext.push _ _).pushed _
  have hsz2 : G1.size = H.size + 2 := by rw [hG2]; rfl
  have hr2 := hE.ro
  have ga : G1.get H.size = some [.slice pa a.1.length ca, .slice qa a.2.length da] := by rw [hG2]; (try simp (disch := omega) only [get_pushB, get_putB, pickB_t, pickB_f, eqB_t, eqB_f, ltB_t, AH.size_push, AH.size_put, AH.ro_push, AH.ro_put])
  have g0 : G1.get (H.size + 1) = some [.slice none 0 0, .slice none 0 0] := by rw [hG2]; (try simp (disch := omega) only [get_pushB, get_putB, pickB_t, pickB_f, eqB_t, eqB_f, ltB_t, AH.size_push, AH.size_put, AH.ro_push, AH.ro_put])
  clear hG2
  refine callW_of (RefLess_ok G1 (by omega) a.1 m _ (Ints.mono hE had) ma hn) ?_
  rintro r G2 ⟨hod0, hE1⟩
  obtain ⟨pu, cu, rfl⟩ := (OwnI.ints hod0).inv
  have hr1 := hE1.ro
  have hs1 := hE1.size
  have ga := hE1.get _ _ ga
  have g0 := hE1.get _ _ g0
  have hE := hE.trans hE1
  simp (disch := omega) only [go_sem, Nat.reduceEqDiff, Nat.reduceAdd, ↓reduceIte, get_pushB, get_putB, pickB_t, pickB_f, eqB_t, eqB_f, ltB_t, leB_t, AH.size_push, AH.size_put, AH.ro_push, AH.ro_put]
  refine callW_of (RefFill_ok G2 (by omega) _ 0 _ (OwnI.ints hod0) md) ?_
  rintro r G3 ⟨⟨vd, vx, rfl, hod, hox, hne⟩, hE3⟩
  obtain ⟨pd, cd, rfl⟩ := hod.ints.inv
  obtain ⟨nx, rfl⟩ := hox.block (by intro h; have := congrArg List.length h; simp at this; omega)
  generalize hN : (prodL (lessP a.1 m)).toNat = N at *
  simp only [List.length_replicate] at hox hne hod ⊢
  have hr3 := hE3.ro
  have hs3 := hE3.size
  have hbx3 := Own.blk hox _ _ _ rfl
  simp only at hbx3
  have ga := hE3.get _ _ ga
  have g0 := hE3.get _ _ g0
  simp (disch := omega) only [go_sem, Nat.reduceEqDiff, Nat.reduceAdd, ↓reduceIte, get_pushB, get_putB, pickB_t, pickB_f, eqB_t, eqB_f, ltB_t, leB_t, AH.size_push, AH.size_put, AH.ro_push, AH.ro_put]
  refine Sat_gen ?_
  intro G4 hG4
  have hE4 : Ext G3 G4 := by rw [hG4]; exact (Ext.push _ _).put (Nat.le_refl _) (by simp only [AH.size_push]; omega) _
  have hs4 : G4.size = G3.size + 1 := by rw [hG4]; rfl
  have kt : G4.get G3.size = some [.slice pd (lessP a.1 m).length cd, .slice (some ⟨nx, 0, none⟩) N 1] := by rw [hG4]; (try simp (disch := omega) only [get_pushB, get_putB, pickB_t, pickB_f, eqB_t, eqB_f, ltB_t, AH.size_push, AH.size_put, AH.ro_push, AH.ro_put])
  have hr4 := hE4.ro
  clear hG4
  have ga := hE4.get _ _ ga
  have g0 := hE4.get _ _ g0
  have hEH := hE.trans (hE3.trans hE4)
  have hZl : (gmaxP a.1 a.2 m).length = N := by rw [gmaxP_len, hN]
  generalize hZ : gmaxP a.1 a.2 m = Z at *
  have hNm : a.2.length = N * m := by
    have : (a.2.length : Int) = ((N * m : Nat) : Int) := by rw [lp, hpr, Int.natCast_mul, ← hN, Int.toNat_of_nonneg (by omega)]
    omega
  have hN64 : N * m ≤ 64 := by
    have := (prodL_pos ma).2; omega
  refine Sat_loop 3000 (fun k H' V => ∃ (i : Nat) (x7 : Value), i ≤ N ∧ k = N - i ∧ Fr nx G4 H' ∧ OwnI G2 H' (.slice (some ⟨nx, 0, none⟩) N 1) (Z.take i ++ List.replicate (N - i) 0) ∧ V = [.agg #[.slice pa a.1.length ca, .slice qa a.2.length da], .int .i64 m, .pointer (some ⟨H.size, 0, none⟩), .pointer (some ⟨H.size + 1, 0, none⟩), .pointer (some ⟨G3.size, 0, none⟩), .int .i64 i, x7]) N ⟨0, _, by omega, by omega, Fr.refl _ _, by simpa using hox.ext hE4, rfl⟩ ?_
  rintro k H' V ⟨i, x7, hi, rfl, hF, ho, rfl⟩ ih
  have ja := hF.get _ _ (by omega) ga
  have jt := hF.get _ _ (by omega) kt
  have hrF := hF.ro
  have hsF := hF.size
  have hEF := hF.ext hEH (by omega)
  simp (disch := omega) only [go_sem, Nat.reduceEqDiff, Nat.reduceAdd, ↓reduceIte, get_pushB, get_putB, pickB_t, pickB_f, eqB_t, eqB_f, ltB_t, leB_t, AH.size_push, AH.size_put, AH.ro_push, AH.ro_put, jt]
  refine Split.mk (fun h1 => ?_) (fun h1 => ?_)
  · have hi2 : i < N := by omega
    have hlen : (Z.take i ++ List.replicate (N - i) (0 : Int)).length = N := by simp; omega
    have hzi : gi (sideP a.2 m i) (greatP a.2 m i : Int) = Z[i]'(by omega) := by subst hZ; simp [gmaxP]
    obtain ⟨sa, sc, es, hs⟩ := side_sl (Ints.mono hEF hax) hNm hi2
    have hsl := sideP_len hNm hi2
    have hgl := fstP_lt (sideP a.2 m i) m (by omega)
    have b1 : aload tb 23 (.pointer (some ⟨G3.size, 1, none⟩)) H'.get = some (.slice (some ⟨nx, 0, none⟩) N 1) := by simp (disch := omega) only [go_sem, Nat.reduceEqDiff, Nat.reduceAdd, ↓reduceIte, get_pushB, get_putB, pickB_t, pickB_f, eqB_t, eqB_f, ltB_t, leB_t, AH.size_push, AH.size_put, AH.ro_push, AH.ro_put, jt]
    have d1 : (i + 1) * m ≤ N * m := Nat.mul_le_mul_right _ hi2
    have d2 : ((i * m : Nat) : Int) = (i : Int) * m := Int.natCast_mul ..
    rw [Nat.succ_mul] at d1
    simp (disch := omega) only [go_sem, Nat.reduceEqDiff, Nat.reduceAdd, ↓reduceIte, get_pushB, get_putB, pickB_t, pickB_f, eqB_t, eqB_f, ltB_t, leB_t, AH.size_push, AH.size_put, AH.ro_push, AH.ro_put, ja, jt, es]
    refine ⟨by (repeat' apply And.intro) <;> first | trivial | exact Same.of b1 b1 (by simp [seqV, seq1]), ?_⟩
    refine callW_of (First_ok H' (sideP a.2 m i) _ hs (by omega)) ?_
    rintro r H2 ⟨rfl, rfl⟩
    rw [hsl]
    have hs' : Ints H2 (.slice sa m sc) (sideP a.2 m i) := hs
    have hg : gi (sideP a.2 m i) (fstP (sideP a.2 m i) m : Int) = Z[i]'(by omega) := hzi
    obtain ⟨hst, ho2, hb1, hb2⟩ := ho.set i (Z[i]'(by omega)) (by omega)
    simp (disch := omega) only [go_sem, Nat.reduceEqDiff, Nat.reduceAdd, ↓reduceIte, get_pushB, get_putB, pickB_t, pickB_f, eqB_t, eqB_f, ltB_t, leB_t, AH.size_push, AH.size_put, AH.ro_push, AH.ro_put, ixI hs', ldI hs', hg, ixI ho.ints, hst]
    refine ⟨by (repeat' apply And.intro) <;> first | trivial | exact Same.of b1 b1 (by simp [seqV, seq1]), ?_⟩
    refine ih _ _ _ ?_ ⟨i + 1, _, ?_, rfl, hF.trans (Fr.put nx _ hb1 _), ?_, rfl⟩
    · omega
    · omega
    · have := take_step Z i (by omega)
      simp only [hZl] at this
      rw [← this]; exact ho2
  · have hiN : i = N := by omega
    subst hiN
    have j0 := hF.get _ _ (by omega) g0
    have ho : OwnI G2 H' (.slice (some ⟨nx, 0, none⟩) i 1) Z := by
      have := ho
      rw [List.take_of_length_le (by omega), Nat.sub_self] at this
      simpa using this
    have hod2 : OwnI G2 H' (.slice pd (lessP a.1 m).length cd) (lessP a.1 m) := Own.fr (hod.ext hE4) hF (fun p q r e => fun e2 => hne _ _ _ e _ _ _ rfl e2.symm)
    have hT : OwnTD G2 H' (.agg #[.slice pd (lessP a.1 m).length cd, .slice (some ⟨nx, 0, none⟩) i 1]) (lessP a.1 m, Z) := ⟨_, _, rfl, hod2, ho, hne⟩
    simp (disch := omega) only [go_sem, Nat.reduceEqDiff, Nat.reduceAdd, ↓reduceIte, get_pushB, get_putB, pickB_t, pickB_f, eqB_t, eqB_f, ltB_t, leB_t, AH.size_push, AH.size_put, AH.ro_push, AH.ro_put, j0, jt]
    exact ⟨hT.out hE h0 (by omega) _, hEF.put (by omega) (by omega) _⟩
theorem RefMaxI_ok (H : AH) (h0 : H.ro ≤ H.size) (a : Ten) (va : Value) (n : Int) (ha : TenV H va a) (ta : isT a = true) (hn : 1 ≤ n ∧ n ≤ 8) (e : lessOk a.1 n = true) : Runs tb 96 [va, .int .i64 n] H (fun r H' => OwnTD H H' r (lessP a.1 n, gmaxP a.1 a.2 n) ∧ Ext H H') := by
  obtain ⟨m, rfl⟩ : ∃ m : Nat, n = m := ⟨n.toNat, by omega⟩
  exact RefMax_ok H h0 a va m ha ta hn e
theorem sgl15_ok (H : AH) (h0 : H.ro ≤ H.size) (a : Ten) (va : Value) (ha : TenV H va a) (ta : isT a = true) (n : Int) (d : List Int) (vd : Value) (hdd : Ints H vd d) (hn : 1 ≤ n ∧ n ≤ 8) :
    Runs tb 39 [.int .i64 15, .int .i64 n, vd, va] H (DoPost H (if lessOk a.1 n = true then (lessP a.1 n, gmaxP a.1 a.2 n) else ([], [])) (if lessOk a.1 n = true then 0 else 4)) := by
  obtain ⟨ad, ax, rfl, had, hax⟩ := id ha
  obtain ⟨pa, ca, rfl⟩ := had.inv
  obtain ⟨qa, da, rfl⟩ := hax.inv
  refine Runs_fn (fn := Try.f39) [.cell 8 32, .tmp 9] [0, 1, 2, 3, 7, 8, 9, 10] [] 3000 (by kernel_rfl) rfl (by kernel_rfl) (by kernel_rfl) rfl ?_; simp only [pad, argAt]
  simp (disch := omega) only [go_sem, Nat.reduceEqDiff, Nat.reduceAdd, ↓reduceIte, get_pushB, get_putB, pickB_t, pickB_f, eqB_t, eqB_f, ltB_t, leB_t, AH.size_push, AH.size_put, AH.ro_push, AH.ro_put, Int.reduceEq, decide_true, decide_false]
  refine callW_gen ?_
  intro G hG
  have hE : Ext H G := by rw [hG]; exact (Ext.push _ _).pushed _
  have hr := hE.ro
  have hs := hE.size
  have hsz : G.size = H.size + 2 := by rw [hG]; rfl
  have g0 : G.get (H.size + 1) = some [.slice none 0 0, .slice none 0 0] := by rw [hG]; (try simp (disch := omega) only [get_pushB, get_putB, pickB_t, pickB_f, eqB_t, eqB_f, ltB_t, AH.size_push, AH.size_put, AH.ro_push, AH.ro_put])
  clear hG
  refine callW_of (GMax_ok G (by omega) a _ n (TenV.mono hE ha) ta hn) ?_
  rintro r G4 ⟨u, rfl, hot, hE4⟩
  obtain ⟨vu, wu, rfl, hu1, hu2, _⟩ := id hot
  obtain ⟨pu, cu, rfl⟩ := hu1.ints.inv
  obtain ⟨pw, cw, rfl⟩ := hu2.ints.inv
  have q0 := hE4.get _ _ g0
  have hr4 := hE4.ro
  have hs4 := hE4.size
  simp (disch := omega) only [go_sem, Nat.reduceEqDiff, Nat.reduceAdd, ↓reduceIte, get_pushB, get_putB, pickB_t, pickB_f, eqB_t, eqB_f, ltB_t, leB_t, AH.size_push, AH.size_put, AH.ro_push, AH.ro_put, q0]
  exact ⟨_, rfl, hot.out hE h0 (by omega) _, (hE.trans hE4).put (by omega) (by omega) _⟩
theorem KindOk15 : KindOk 15 (fun n d l => gmaxP (l.getD 0 ([], [])).1 (l.getD 0 ([], [])).2 n) where
  fill h := by omega
  two n d l h hl := by have := (doOk_form h).2.2.2.2; simp [manyP] at this; omega
  one n d l h hl G u vd h0 hd hu := by
    have hA := (doOk_form h).2.2.1
    have hn : 1 ≤ n ∧ n ≤ 8 := by have := (formP_spec (doOk_form h).2.2.2.1).2.2.2.1; simpa [numberP] using this
    have := sgl15_ok G h0 _ u hu (all_getD hA (by omega)) n d vd hd hn
    have e : doE (fun n d l => gmaxP (l.getD 0 ([], [])).1 (l.getD 0 ([], [])).2 n) 15 n d l = (if lessOk (l.getD 0 ([], [])).1 n = true then ((lessP (l.getD 0 ([], [])).1 n, gmaxP (l.getD 0 ([], [])).1 (l.getD 0 ([], [])).2 n), 0) else (([], []), 4)) := by
      simp only [doE, h, if_true, dimsP, map_getD]
      simp only [Int.reduceEq, or_self, or_false, or_true, false_or, if_true, if_false]
      by_cases hC : lessOk (l.getD 0 ([], [])).1 n = true
      · simp only [if_pos hC]
      · simp only [if_neg hC]
    rw [e]
    split
    · rename_i hc; simp only [if_pos hc] at this; exact this
    · rename_i hc; simp only [if_neg hc] at this; exact this
  ref n d l x h hx G vd vl h0 hd hl := by
    have hA := (doOk_form h).2.2.1
    have hm := (doOk_form h).2.2.2.2
    have hlen : l.length = 1 := by simp [manyP] at hm; omega
    have hn : 1 ≤ n ∧ n ≤ 8 := by have := (formP_spec (doOk_form h).2.2.2.1).2.2.2.1; simpa [numberP] using this
    have hx2 : (lessOk (l.getD 0 ([], [])).1 n = true) ∧ x = lessP (l.getD 0 ([], [])).1 n := by
      simp only [dimsP, map_getD] at hx
      simp only [Int.reduceEq, or_self, or_false, or_true, false_or, if_true, if_false] at hx
      split at hx
      · rename_i hc; cases hx; exact ⟨hc, rfl⟩
      · cases hx
    obtain ⟨hC, rfl⟩ := hx2
    obtain ⟨pl, cl, rfl⟩ := hl.inv
    have ta := all_getD hA (i := 0) (by omega)
    have hP := Ext.push G [.slice none 0 0, .slice none 0 0]
    have hlP := Tens.mono hP hl
    obtain ⟨u0, hu0, ht0⟩ := ldT0 hl (by omega)
    have hu0 := fun (H' : AH) (hE' : Ext G H') => aload_ext hE' hu0
    refine Runs_fn (fn := Try.f48) [.cell 8 32] [0, 1, 2, 3, 8, 9] [(19, [(5, 1)])] 3000 (by kernel_rfl) rfl (by kernel_rfl) (by kernel_rfl) rfl ?_; simp only [pad, argAt]
    simp (disch := omega) only [go_sem, Nat.reduceEqDiff, Nat.reduceAdd, ↓reduceIte, get_pushB, get_putB, pickB_t, pickB_f, eqB_t, eqB_f, ltB_t, leB_t, AH.size_push, AH.size_put, AH.ro_push, AH.ro_put, Int.reduceEq, decide_true, decide_false, ixT hlP, hu0 _ hP]
    refine callW_gen ?_
    intro G1 hG
    have hE : Ext G G1 := by rw [hG]; exact Ext.push _ _
    have g0 : G1.get G.size = some [.slice none 0 0, .slice none 0 0] := by rw [hG]; (try simp (disch := omega) only [get_pushB, get_putB, pickB_t, pickB_f, eqB_t, eqB_f, ltB_t, AH.size_push, AH.size_put, AH.ro_push, AH.ro_put])
    have hs : G1.size = G.size + 1 := by rw [hG]; rfl
    have hr := hE.ro
    clear hG
    refine callW_of (RefMaxI_ok G1 (by omega) _ u0 n (TenV.mono hE ht0) ta hn hC) ?_
    rintro r H1 ⟨hot, hE1⟩
    obtain ⟨vu, wu, rfl, hu1, hu2, _⟩ := id hot
    obtain ⟨pu, cu, rfl⟩ := hu1.ints.inv
    obtain ⟨pw, cw, rfl⟩ := hu2.ints.inv
    have q0 := hE1.get _ _ g0
    have hr1 := hE1.ro
    have hs1 := hE1.size
    simp (disch := omega) only [go_sem, Nat.reduceEqDiff, Nat.reduceAdd, ↓reduceIte, get_pushB, get_putB, pickB_t, pickB_f, eqB_t, eqB_f, ltB_t, leB_t, AH.size_push, AH.size_put, AH.ro_push, AH.ro_put, q0]
    exact ⟨hot.out hE h0 (by omega) _, (hE.trans hE1).put (Nat.le_refl _) (by omega) _⟩
end Go.Proofs.K
