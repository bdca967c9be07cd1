/- All kinds. -/
import Derived.Test.YtcbmnjhdeklkmaaO7
import Derived.Test.YtcbmnjhdeklkmaaP4
set_option linter.unusedVariables false
set_option maxRecDepth 8000
set_option maxHeartbeats 4000000
set_option linter.unusedSimpArgs false
namespace Go.Proofs.K
open Go Go.Ab
theorem Own_appendB {T : Tab} {t e : TypeId} {sz : Nat} (hT : STy T t e sz) {H0 H : AH} {n m : Nat} {v x : Value} {xs ys : List Value} (h : Own H0 H sz v n xs) (h0 : H0.ro ≤ H0.size) (hE : Ext H0 H)
    (hx : alenOf x = some m) (hy : afirst sz m x H = some ys) (hyl : ys.length = m * sz) (hb : n + m ≤ 281474976710656 ∧ ∀ j, T.ty e = some j → (n + m) * j.bytes ≤ 140737488355328) :
    ∃ v' H', aappend T t t v x H = some (v', H') ∧ Own H0 H' sz v' (n + m) (xs ++ ys) ∧ Ext H0 H' := by
  obtain ⟨i, j, h1, h2, h3, h4, h5, h6, h7, h8, h9⟩ := hT.ex
  obtain ⟨desc, si, by_, ze, eq⟩ := i
  cases h2
  have hbm : ∀ k, k ≤ n + m → k * j.bytes ≤ 140737488355328 := fun k hk => Nat.le_trans (Nat.mul_le_mul_right _ hk) (hb.2 j h3)
  have hb := hb.1
  have hyn : ¬ ys.length ≠ m * sz := by omega
  cases h with
  | nil =>
    by_cases hm : m = 0
    · subst hm
      have : ys = [] := List.eq_nil_of_length_eq_zero (by omega)
      subst this
      refine ⟨.slice none 0 0, H, ?_, .nil, hE⟩
      subst h4
      simp [aappend, h1, h3, h5, h6, h7, hx, hy]
    · refine ⟨.slice (some ⟨H.size, 0, none⟩) m sz, H.push ys, ?_, ?_, hE.pushed _⟩
      · subst h4
        simp [aappend, h1, h3, h5, h6, h7, hx, hy, hyl, hm, hbm m (by omega)]
      · rw [Nat.zero_add, List.nil_append]
        refine .mk H.size m ys hE.size h0 hE.ro ?_ hyl (by omega)
        rw [AH.get_push, if_pos rfl]
  | mk b n xs hbb hro hr hg hl hn =>
    by_cases hm : m = 0
    · subst hm
      have : ys = [] := List.eq_nil_of_length_eq_zero (by omega)
      subst this
      refine ⟨.slice (some ⟨b, 0, none⟩) n sz, H, ?_, by rw [List.append_nil]; exact .mk b n xs hbb hro hr hg hl hn, hE⟩
      subst h4
      simp [aappend, h1, h3, h5, h6, h7, hx, hy]
    · have hbs := AH.lt_of_get hg
      refine ⟨.slice (some ⟨H.size, 0, none⟩) (n + m) sz, (H.put b none).push (xs ++ ys), ?_, ?_, ?_⟩
      · subst h4
        have hle : n * j.size ≤ xs.length := by omega
        have htk : xs.take (n * j.size) = xs := List.take_of_length_le (by omega)
        have hrb : H.ro ≤ b := by omega
        simp [aappend, h1, h3, h5, h6, h7, hx, hy, hyl, hm, hg, hrb, hle, hbm (n + m) (by omega), htk]
      · refine .mk H.size (n + m) (xs ++ ys) hE.size h0 hE.ro ?_ (by rw [List.length_append, hl, hyl, Nat.add_mul]) (by omega)
        rw [AH.get_push]; simp
      · exact (hE.put hbb hbs none).pushed _
theorem OwnI.appB {H0 H : AH} {v x : Value} {l m : List Int} (h : OwnI H0 H v l) (h0 : H0.ro ≤ H0.size) (hE : Ext H0 H) (hx : alenOf x = some m.length) (hy : afirst 1 m.length x H = some (m.map (.int .i64))) (hb : (l.length + m.length) * 8 ≤ 140737488355328) :
    ∃ v' H', aappend tb 23 23 v x H = some (v', H') ∧ OwnI H0 H' v' (l ++ m) ∧ Ext H0 H' := by
  obtain ⟨v', H', e, ho, hE'⟩ := Own_appendB stI h h0 hE hx hy (by simp) ⟨by omega, fun j hj => by rw [ty3] at hj; cases hj; exact hb⟩
  exact ⟨v', H', e, by unfold OwnI; rw [List.length_append, List.map_append]; exact ho, hE'⟩
/-- A kind's value, and how long it is. -/
structure KindFull (k : Int) (val : Int → List Int → List Ten → List Int) : Prop where
  ok : KindOk k val
  len : k ≠ 3 → ∀ n d l x, doOk k n d l = true → dimsP k n d (l.map (·.1)) = some x → (val n d l).length = (prodL x).toNat
theorem two_len {f : Int → Int → Int} {k n : Int} {d x : List Int} {l : List Ten} (hk : k = 4 ∨ k = 5 ∨ k = 6 ∨ k = 16) (h : doOk k n d l = true) (hx : dimsP k n d (l.map (·.1)) = some x) : (List.zipWith f (l.getD 0 ([], [])).2 (l.getD 1 ([], [])).2).length = (prodL x).toNat := by
  have hA := (doOk_form h).2.2.1
  have hm := (doOk_form h).2.2.2.2
  have hlen : (l.length : Int) = 2 := by rw [hm]; unfold manyP; rcases hk with rfl | rfl | rfl | rfl <;> simp
  have ta := all_getD hA (i := 0) (by omega)
  have tb' := all_getD hA (i := 1) (by omega)
  simp only [dimsP, map_getD] at hx
  rw [if_neg (by omega), if_pos (by omega)] at hx
  split at hx
  · rename_i hc
    cases hx
    rw [List.length_zipWith, (isT_spec ta).2.2, (isT_spec tb').2.2, ← hc]
    simp
  · cases hx
theorem one_len {f : Int → Int} {k n : Int} {d x : List Int} {l : List Ten} (hk : k = 7 ∨ k = 8 ∨ k = 14) (h : doOk k n d l = true) (hx : dimsP k n d (l.map (·.1)) = some x) : ((l.getD 0 ([], [])).2.map f).length = (prodL x).toNat := by
  have hA := (doOk_form h).2.2.1
  have hm := (doOk_form h).2.2.2.2
  have hlen : (l.length : Int) = 1 := by rw [hm]; unfold manyP; rcases hk with rfl | rfl | rfl <;> simp
  have ta := all_getD hA (i := 0) (by omega)
  simp only [dimsP, map_getD] at hx
  rcases hk with rfl | rfl | rfl <;> (simp only [Int.reduceEq, or_self, or_false, or_true, false_or, if_true, if_false] at hx; cases hx; rw [List.length_map, (isT_spec ta).2.2])
theorem KindNone (k : Int) (hk : k < 1 ∨ 17 < k) : KindOk k (fun _ _ _ => []) where
  fill h := by omega
  two n d l h := by have := (formP_spec (doOk_form h).2.2.2.1).1; omega
  one n d l h := by have := (formP_spec (doOk_form h).2.2.2.1).1; omega
  ref n d l x h := by have := (formP_spec (doOk_form h).2.2.2.1).1; omega
theorem KindAll (k : Int) : ∃ val, KindFull k val := by
  by_cases h0 : k < 1 ∨ 17 < k
  · exact ⟨_, KindNone k h0, fun _ n d l x h => by have := (formP_spec (doOk_form h).2.2.2.1).1; omega⟩
  · have : k = 1 ∨ k = 2 ∨ k = 3 ∨ k = 4 ∨ k = 5 ∨ k = 6 ∨ k = 7 ∨ k = 8 ∨ k = 9 ∨ k = 10 ∨ k = 11 ∨ k = 12 ∨ k = 13 ∨ k = 14 ∨ k = 15 ∨ k = 16 ∨ k = 17 := by omega
    rcases this with rfl | rfl | rfl | rfl | rfl | rfl | rfl | rfl | rfl | rfl | rfl | rfl | rfl | rfl | rfl | rfl | rfl
    · exact ⟨_, KindOk1, fun _ n d l x h => absurd rfl (doOk_form h).1⟩
    · exact ⟨_, KindOk2, fun _ n d l x h => absurd rfl (doOk_form h).2.1⟩
    · exact ⟨_, KindOk3, fun h => absurd rfl h⟩
    · exact ⟨_, KindOk4, fun _ n d l x h hx => two_len (by omega) h hx⟩
    · exact ⟨_, KindOk5, fun _ n d l x h hx => two_len (by omega) h hx⟩
    · exact ⟨_, KindOk6, fun _ n d l x h hx => two_len (by omega) h hx⟩
    · exact ⟨_, KindOk7, fun _ n d l x h hx => one_len (by omega) h hx⟩
    · exact ⟨_, KindOk8, fun _ n d l x h hx => one_len (by omega) h hx⟩
    · refine ⟨_, KindOk9, fun _ n d l x h hx => ?_⟩
      have hA := (doOk_form h).2.2.1
      have hm := (doOk_form h).2.2.2.2
      have hlen : l.length = 2 := by simp [manyP] at hm; omega
      obtain ⟨ma, _, _⟩ := isT_spec (all_getD hA (i := 0) (by omega))
      obtain ⟨mb, _, _⟩ := isT_spec (all_getD hA (i := 1) (by omega))
      simp only [dimsP, map_getD] at hx
      simp only [Int.reduceEq, or_self, or_false, or_true, false_or, if_true, if_false] at hx
      split at hx
      · rename_i hc
        cases hx
        obtain ⟨r, m, _, hr, _, _, g0, g1⟩ := two_dims ma hc.1
        obtain ⟨m', c, _, _, hc', _, f0, f1⟩ := two_dims mb hc.2.1
        rw [matP, matR_len, List.length_replicate, g0, f1, prodL_2 _ _ (by omega) (by omega), ← Int.natCast_mul, Int.toNat_natCast, Int.toNat_natCast, Int.toNat_natCast]
      · cases hx
    · refine ⟨_, KindOk10, fun _ n d l x h hx => ?_⟩
      have hA := (doOk_form h).2.2.1
      have hm := (doOk_form h).2.2.2.2
      have hlen : l.length = 1 := by simp [manyP] at hm; omega
      obtain ⟨ma, _, _⟩ := isT_spec (all_getD hA (i := 0) (by omega))
      simp only [dimsP, map_getD] at hx
      simp only [Int.reduceEq, or_self, or_false, or_true, false_or, if_true, if_false] at hx
      split at hx
      · rename_i hc
        cases hx
        obtain ⟨r, c, _, hr, hc', _, g0, g1⟩ := two_dims ma hc
        rw [turnP, turnR_len, List.length_replicate, g0, g1, prodL_2 _ _ (by omega) (by omega), ← Int.natCast_mul, Int.toNat_natCast, Int.toNat_natCast, Int.toNat_natCast, Nat.mul_comm]
      · cases hx
    · refine ⟨_, KindOk11, fun _ n d l x h hx => ?_⟩
      have hA := (doOk_form h).2.2.1
      have hm := (doOk_form h).2.2.2.2
      have hlen : l.length = 1 := by simp [manyP] at hm; omega
      obtain ⟨ma, _, la⟩ := isT_spec (all_getD hA (i := 0) (by omega))
      simp only [dimsP, map_getD] at hx
      simp only [Int.reduceEq, or_self, or_false, or_true, false_or, if_true, if_false] at hx
      split at hx
      · rename_i hc
        cases hx
        rw [la, hc]
      · cases hx
    · refine ⟨_, KindOk12, fun _ n d l x h hx => ?_⟩
      simp only [dimsP, map_getD] at hx
      simp only [Int.reduceEq, or_self, or_false, or_true, false_or, if_true, if_false] at hx
      split at hx
      · cases hx; rw [wideP_len]
      · cases hx
    · refine ⟨_, KindOk13, fun _ n d l x h hx => ?_⟩
      simp only [dimsP, map_getD] at hx
      simp only [Int.reduceEq, or_self, or_false, or_true, false_or, if_true, if_false] at hx
      split at hx
      · cases hx; rw [sumI_len]
      · cases hx
    · exact ⟨_, KindOk14, fun _ n d l x h hx => one_len (by omega) h hx⟩
    · refine ⟨_, KindOk15, fun _ n d l x h hx => ?_⟩
      simp only [dimsP, map_getD] at hx
      simp only [Int.reduceEq, or_self, or_false, or_true, false_or, if_true, if_false] at hx
      split at hx
      · cases hx; rw [gmaxP_len]
      · cases hx
    · exact ⟨_, KindOk16, fun _ n d l x h hx => two_len (by omega) h hx⟩
    · refine ⟨_, KindOk17, fun _ n d l x h hx => ?_⟩
      simp only [dimsP, map_getD] at hx
      simp only [Int.reduceEq, or_self, or_false, or_true, false_or, if_true, if_false] at hx
      split at hx
      · cases hx; rw [pickI_len]
      · cases hx
/-- The argument, with the kinds' bound. -/
theorem repAskK {n : Nat} {H : AH} {d : Dt} {xs : List Value} (hl : xs.length = 4) (h : Rep tb (n + 6) 28 H (fun k => xs[k]?) d) : ∃ vt vn vd vk p, xs = [vt, vn, vd, vk] ∧ AskV H vt vn vd vk p ∧ p.K.length * 8 ≤ reachBytes := by
  obtain ⟨r, _, hr⟩ := rep_field ty28 rfl h 0 (ft := 25) (fo := 0) (by kernel_rfl)
  obtain ⟨x, _, hx⟩ := rep_field ty28 rfl h 1 (ft := 26) (fo := 2) (by kernel_rfl)
  obtain ⟨y, _, hy⟩ := rep_field ty28 rfl h 2 (ft := 23) (fo := 3) (by kernel_rfl)
  obtain ⟨t, _, ht⟩ := rep_field ty25 rfl hr 0 (ft := 22) (fo := 0) (by kernel_rfl)
  obtain ⟨m, _, hm⟩ := rep_field ty25 rfl hr 1 (ft := 23) (fo := 1) (by kernel_rfl)
  obtain ⟨vt, e1, i1⟩ := repTs ht
  obtain ⟨vn, e2, i2⟩ := repI hm
  obtain ⟨vd, e3, i3⟩ := repII hx
  obtain ⟨vk, e4, hb, i4⟩ := rep_slice ty23 rfl ty3 hy
  have i4 : Ints H vk y.ints := i4.conv Dt.toI fun f x hx => (rep_int ty3 rfl hx).1
  match xs, hl with
  | [a, b, c, e], _ =>
    simp at e1 e2 e3 e4
    subst e1; subst e2; subst e3; subst e4
    exact ⟨_, _, _, _, ⟨_, _, _, _⟩, rfl, ⟨i1, i2, i3, i4⟩, by simpa [Dt.ints] using hb⟩
end Go.Proofs.K
