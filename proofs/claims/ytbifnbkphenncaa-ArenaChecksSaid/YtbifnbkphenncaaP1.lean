/- Parts of a proof about this program: an abstract machine over the model's syntax, sound against the model. -/
import Derived.Test.YtbifnbkphenncaaP0
/- Regions that draw their order: one step, and all. -/
set_option linter.unusedVariables false
set_option linter.unusedSimpArgs false
namespace Go.Ab

theorem least_such {p : Nat → Prop} (h : ∃ n, p n) : ∃ n, p n ∧ ∀ m, p m → n ≤ m := by
  obtain ⟨n, hn⟩ := h
  induction n using Nat.strongRecOn with
  | ind n ih =>
    by_cases hm : ∃ m, m < n ∧ p m
    · obtain ⟨m, hlt, hp⟩ := hm; exact ih m hlt hp
    · exact ⟨n, hn, fun m hp => Nat.le_of_not_lt fun hlt => hm ⟨m, hlt, hp⟩⟩

/-- A run in the text's order exists: of whatever is reached, something stands for it. -/
def Ghost (T : Tab) (st : Nat → St) (i : Nat) : Prop := ∃ (pr : Nat → Prop) (φ : Phi) (a' : Act) (w : World), AR T φ (st i).a a' ∧ Inv pr φ (st i).H w

section
variable {P : Program} {T : Tab} (hTab : T.Ok P) {F : CallF} (hFo : CallOk P T F) (hFg : FGrow F) (hF2 : ∀ f vs H r, F f vs H = some r → ∃ fn c, P.funcs[f]? = some fn ∧ (fn.name == "runtime.NumGoroutine") = false ∧ fn.body = some c)
  {ops : Array Oper} (hS : Stat ops) {st : Nat → St} {val : Nat → Value} (hT : Trc T F ops st val) (hgh : ∀ i, i ≤ ops.size → Ghost T st i)
  (hchk : ∀ i e oi oe, ops[i]? = some oi → ops[e]? = some oe → cls oi.op = .load → cls oe.op = .eff → ordB (Region.before ops) i e = false → ordB (Region.before ops) e i = false →
    Region.wanted oi (yielded ops (st i).a.tmps) = true → Region.wanted oe (yielded ops (st e).a.tmps) = true →
    ∃ v, aread T (st i).a oi.op (st i).H.get = some v ∧ aread T (st i).a oi.op (st e).H.get = some v ∧ aread T (st i).a oi.op (st (e + 1)).H.get = some v)
  {pr : Nat → Prop} {φ0 : Phi} {w0 : World} (hro : (st 0).H.ro ≤ (st 0).H.size) (hrom : ∀ c, c < (st 0).H.ro → ∃ p, φ0 c = some p)
include hTab hFo hFg hF2 hS hT hgh hchk hro hrom

omit hTab hFo hFg hF2 hT hgh hchk hro hrom in
theorem ord_lt {i j : Nat} {oj : Oper} (hj : ops[j]? = some oj) (h : ordB (Region.before ops) i j = true) : i < j :=
  before_closed ops (fun k => k < j) (fun k o ho hk e he hb => by have := hS.back k o ho e he hb; omega) j oj hj (fun e he hb => hS.back j oj hj e he hb) i h

theorem Mid.step {L : Nat → Prop} [DecidablePred L] (hL : Closed ops L) (hLn : ∀ i, L i → i < ops.size) {a' : Act} {w : World} {φ : Phi} {G : Nat → Option Blk} {pos : Nat} (hM : Mid T ops st val pr φ0 w0 L a' w φ G pos)
    {i : Nat} {o : Oper} (hi : ops[i]? = some o) (hr : ∀ e ∈ o.after, Region.binds .any e = true → L e.on) (hn : ¬ L i) {L' : Nat → Prop} [DecidablePred L'] (hL' : ∀ k, L' k ↔ (L k ∨ k = i)) {K : Act → World → Prop} {Q : Exit → Act → World → Prop}
    (hK : ∀ a2 w2 φ2 G2 pos2, Mid T ops st val pr φ0 w0 L' a2 w2 φ2 G2 pos2 → K a2 w2) : wpOp P ops Q i K a' w := by
  have hin : i < ops.size := (Array.getElem?_eq_some_iff.1 hi).1
  have hsz : ∀ k, k ≤ ops.size → (st k).a.tmps.size = (st 0).a.tmps.size := by
    intro k
    induction k with
    | zero => intro _; rfl
    | succ k ih =>
      intro hk
      rw [hT.act k _ (Array.getElem?_eq_getElem (by omega)), size_put]
      exact ih (by omega)
  have hps : (part ops val L (st 0).a ops.size).tmps.size = (st i).a.tmps.size := by rw [part_size, hsz i (by omega)]
  have hag : ∀ d ∈ o.looksAt ops, slot (part ops val L (st 0).a ops.size) d = slot (st i).a d := fun d hd =>
    part_agree hS hL (st := fun k => (st k).a) (fun k o ho => hT.act k o ho) hi hr hn hd ops.size (by omega)
  have hwant : Region.wanted o (yielded ops a'.tmps) = Region.wanted o (yielded ops (st i).a.tmps) := by
    rw [hM.frame.wanted, wanted_congr hps hag]
  have hER : ER T φ (st i).a a' o.op := by
    intro x hx v hv
    cases x with
    | tmp d =>
      have hd : d ∈ o.looksAt ops := List.mem_append_left _ (List.mem_filterMap.2 ⟨.tmp d, by simpa using hx, rfl⟩)
      have he := hag d hd
      simp only [aev, Option.some.injEq] at hv
      have h1 : slot (st i).a d = v := hv
      have := hM.frame.rel d
      have h2 : (part ops val L (st 0).a ops.size).tmps.getD d undef = slot (part ops val L (st 0).a ops.size) d := rfl
      rw [h2, he, h1] at this
      simpa [Act.eval] using this
    | const c => exact hM.frame.ev hv
    | global g => exact hM.frame.ev hv
    | func f => exact hM.frame.ev hv
  have hfr : ∀ {φ2 : Phi} {v' : Value}, φ.le φ2 → VRel φ2 (val i) v' → AR T φ2 (part ops val L' (st 0).a ops.size) (a'.put o.dst v') := fun {φ2 v'} hl hv =>
    ((hM.frame.mono hl).put o.dst hv).congr (by rw [size_put, part_size, part_size]) fun d => (part_more hS hL hi hr hn hL' ops.size hin d).symm
  have hLL : ∀ k, k ≠ i → (L' k ↔ L k) := fun k hk => (hL' k).trans ⟨fun h => h.resolve_right hk, .inl⟩
  -- when no block is made or written
  have same : (¬ Is ops st .eff i) → (¬ Is ops st .make i) → ∀ v', VRel φ (val i) v' → Mid T ops st val pr φ0 w0 L' (a'.put o.dst v') w φ G pos := fun h1 h2 v' hv =>
    ⟨hfr (Phi.le.refl _) hv, hM.heap, hM.le, hM.kept, hM.pos_le,
      fun e he => by rw [hLL e (by rintro rfl; exact h1 he)]; exact hM.effs e he, hM.last, hM.low,
      fun j hj hm hLj => hM.made j hj hm ((hLL j (by rintro rfl; exact h2 hm)).1 hLj),
      fun b p hp => (hM.dom b p hp).imp id fun ⟨j, a1, a2, a3, a4⟩ => ⟨j, a1, a2, (hL' j).2 (.inl a3), a4⟩,
      fun b hb hno => hM.rest b hb fun ⟨j, a1, a2, a3, a4⟩ => hno ⟨j, a1, a2, (hL' j).2 (.inl a3), a4⟩⟩
  unfold wpOp
  simp only [hi]
  rw [hwant]
  cases hw : Region.wanted o (yielded ops (st i).a.tmps) with
  | false =>
    simp only [Bool.false_eq_true, if_false]
    obtain ⟨hv, _⟩ := hT.no i o hi hw
    refine hK _ _ φ G pos (same ?_ ?_ undef (by rw [hv]; exact VRel.unit φ))
    · rintro ⟨o', ho', hw', _⟩; rw [hi] at ho'; cases ho'; rw [hw] at hw'; cases hw'
    · rintro ⟨o', ho', hw', _⟩; rw [hi] at ho'; cases ho'; rw [hw] at hw'; cases hw'
  | true =>
    simp only [if_true]
    left
    have hs := hT.yes i o hi hw
    have notcls : ∀ c, cls o.op ≠ c → ¬ Is ops st c i := fun c hc ⟨o', ho', _, hc'⟩ => by rw [hi] at ho'; cases ho'; exact hc hc'
    -- what is ordered behind writings
    have behind : ∀ e, Is ops st .eff e → i < e → L e → (cls o.op = .eff ∨ cls o.op = .make) → False := fun e he hie hLe hc => by
      obtain ⟨oe, hoe, _, hce⟩ := he
      exact hn (ahead hL hoe (.inl hLe) (hS.eff i e o oe hie hi hoe hce hc))
    have lastL : ∀ e, pos = e + 1 → Is ops st .eff e → L e := fun e hpe he => (hM.effs e he).2 (by omega)
    cases hc : cls o.op with
    | pure =>
      have hca : acallee T (st i).a o.op = none := by
        cases h : acallee T (st i).a o.op with
        | none => rfl
        | some r => have := acallee_cls h; rw [hc] at this; cases this
      simp only [astep, hca, aop, hc] at hs
      obtain ⟨h1, h2⟩ := keep_inv hs
      obtain ⟨v', hrun, hv⟩ := apure_run hTab (P := P) (w := w) hER h1
      unfold Oper.wp
      rw [hrun, Oper.upon_value]
      exact hK _ _ φ G pos (same (notcls _ (by rw [hc]; simp)) (notcls _ (by rw [hc]; simp)) v' hv)
    | load =>
      have hca : acallee T (st i).a o.op = none := by
        cases h : acallee T (st i).a o.op with
        | none => rfl
        | some r => have := acallee_cls h; rw [hc] at this; cases this
      simp only [astep, hca, aop, hc] at hs
      obtain ⟨h1, h2⟩ := keep_inv hs
      -- the read tells the same in the heap at hand
      have hG : aread T (st i).a o.op G = some (val i) := by
        unfold aread at h1
        split at h1
        · rename_i t x hop
          split at h1
          · rename_i u hu
            have hmapped : ∀ b off, u = .pointer (some ⟨b, off, none⟩) → ∃ p, φ b = some p := fun b off e => by
              have := hER x (by rw [hop]; simp [Op.operands]) u hu
              rw [e] at this
              obtain ⟨p, hp, _⟩ := this.addr_inv
              exact ⟨p, hp⟩
            have rd : ∀ G', aread T (st i).a o.op G' = aload T t u G' := fun G' => by unfold aread; rw [hop]; simp only [hu]
            rw [rd]
            by_cases hpi : pos ≤ i
            · -- the first writing from pos on that comes ahead of i in the text
              have hfirst : ∃ e0, pos ≤ e0 ∧ e0 ≤ i ∧ (∀ e, pos ≤ e → e < e0 → ¬ Is ops st .eff e) ∧ aload T t u (st e0).H.get = some (val i) := by
                by_cases hex : ∃ e, pos ≤ e ∧ e < i ∧ Is ops st .eff e
                · obtain ⟨e0, he0, hmin⟩ := least_such hex
                  refine ⟨e0, he0.1, by omega, fun e h1 h2 h3 => ?_, ?_⟩
                  · have := hmin e ⟨h1, by omega, h3⟩; omega
                  · obtain ⟨hp0, hlt0, oe, hoe, hwe, hce⟩ := he0
                    have hnL : ¬ L e0 := fun h => by have := (hM.effs e0 ⟨oe, hoe, hwe, hce⟩).1 h; omega
                    have o1 : ordB (Region.before ops) e0 i = false := by
                      cases h : ordB (Region.before ops) e0 i with
                      | false => rfl
                      | true => exact absurd (ahead hL hi (.inr hr) h) hnL
                    have o2 : ordB (Region.before ops) i e0 = false := by
                      cases h : ordB (Region.before ops) i e0 with
                      | false => rfl
                      | true => have := ord_lt hS hoe h; omega
                    obtain ⟨v, c1, c2, c3⟩ := hchk i e0 o oe hi hoe hc hce o2 o1 hw hwe
                    rw [rd] at c1 c2
                    rw [h1] at c1; cases c1
                    exact c2
                · exact ⟨i, hpi, Nat.le_refl _, fun e h1 h2 h3 => hex ⟨e, h1, h2, h3⟩, h1⟩
              obtain ⟨e0, q1, q2, q3, q4⟩ := hfirst
              refine aload_congr q4 fun b off e hne => ?_
              obtain ⟨p, hp⟩ := hmapped b off e
              rcases hM.dom b p hp with hb | ⟨j, a1, a2, a3, a4⟩
              · rw [hM.low b hb, hT.quietTo hFg q1 (by omega) q3 hb]
              · by_cases hj : j < e0
                · rw [← a4, hM.made j a1 a2 a3]
                  have hb1 : (st j).H.size < (st (j + 1)).H.size := hT.sizeMake hFg a2 (Nat.lt_succ_self j) (by omega)
                  exact (hT.quietTo hFg (show j + 1 ≤ e0 from hj) (by omega) (fun e h1 h2 => q3 e (by omega) h2) hb1).symm
                · exfalso
                  apply hne
                  have := (hT.mono hFg (show e0 ≤ j by omega) (by have := a2.lt; omega)).1
                  exact AH.get_ge (by omega)
            · obtain ⟨e1, he1, hev⟩ := hM.last.resolve_left (by omega)
              have hLe := lastL e1 he1 hev
              obtain ⟨oe, hoe, hwe, hce⟩ := hev
              have hie : i < e1 := by
                have : i ≠ e1 := fun h => hn (h ▸ hLe)
                omega
              have o1 : ordB (Region.before ops) i e1 = false := by
                cases h : ordB (Region.before ops) i e1 with
                | false => rfl
                | true => exact absurd (ahead hL hoe (.inl hLe) h) hn
              have o2 : ordB (Region.before ops) e1 i = false := by
                cases h : ordB (Region.before ops) e1 i with
                | false => rfl
                | true => have := ord_lt hS hi h; omega
              obtain ⟨v, c1, c2, c3⟩ := hchk i e1 o oe hi hoe hc hce o1 o2 hw hwe
              rw [rd] at c1 c3
              rw [h1] at c1; cases c1
              rw [← he1] at c3
              refine aload_congr c3 fun b off e hne => ?_
              obtain ⟨y, hy⟩ := Option.ne_none_iff_exists'.1 hne
              exact hM.low b (AH.lt_of_get hy)
          · cases h1
        · cases h1
      obtain ⟨v', hrun, hv⟩ := aread_run hTab (P := P) hM.heap hER hG
      unfold Oper.wp
      rw [hrun, Oper.upon_value]
      exact hK _ _ φ G pos (same (notcls _ (by rw [hc]; simp)) (notcls _ (by rw [hc]; simp)) v' hv)
    | make =>
      have hmk : Is ops st .make i := ⟨o, hi, hw, hc⟩
      obtain ⟨o', xs, ho', hm1, hm2⟩ := hT.make hmk
      rw [hi] at ho'; cases ho'
      have hpi : pos ≤ i := by
        rcases hM.last with h | ⟨e1, he1, hev⟩
        · omega
        · by_cases hie : i < e1
          · exact (behind e1 hev hie (lastL e1 he1 hev) (.inr hc)).elim
          · have : i ≠ e1 := fun h => hn (h ▸ lastL e1 he1 hev)
            omega
      have hszp := (hT.mono hFg hpi (by omega)).1
      have hjne : ∀ j, Is ops st .make j → L j → (st j).H.size ≠ (st i).H.size := fun j hj hLj he => by
        have hji : j ≠ i := fun h => hn (h ▸ hLj)
        rcases Nat.lt_or_ge j i with h | h
        · have := hT.sizeMake hFg hj h (by omega); omega
        · have := hT.sizeMake hFg hmk (show i < j by omega) (by have := hj.lt; omega); omega
      have hfresh : φ (st i).H.size = none := by
        cases h : φ (st i).H.size with
        | none => rfl
        | some p =>
          rcases hM.dom _ p h with hb | ⟨j, a1, a2, a3, a4⟩
          · omega
          · exact absurd a4 (hjne j a2 a3)
      obtain ⟨s, es, cs, t, v', hrun, hc1, hc2, hv⟩ := amakes_run hTab (P := P) (w := w) hER hm1
      have hroi : (st 0).H.ro ≤ (st i).H.size := Nat.le_trans hro (hT.mono hFg (Nat.zero_le i) (by omega)).1
      have hpush := hM.heap.pushAt hfresh hroi t hc1 hc2
      have hle := Phi.le_addAt hfresh ⟨w.heap.size, 0, cs.size⟩
      unfold Oper.wp
      rw [es]
      simp only [Sem.run_bind, hrun, Result.andThen_ok, Sem.run_pure]
      rw [Oper.upon_value]
      refine hK _ _ _ _ pos ⟨hfr hle (hv _ (Phi.add_self _ _ _)), hpush, hM.le.trans hle, hM.kept.trans (hM.heap.keptAlloc _), hM.pos_le, fun e he => ?_, hM.last, fun b hb => ?_, fun j hj hm hLj => ?_, fun b p hp => ?_, fun b hb hno => ?_⟩
      · rw [hLL e (by rintro rfl; obtain ⟨o2, ho2, _, hc2⟩ := he; rw [hi] at ho2; cases ho2; rw [hc] at hc2; cases hc2)]; exact hM.effs e he
      · unfold upd; rw [if_neg (by omega)]; exact hM.low b hb
      · by_cases hji : j = i
        · subst hji
          rw [hm2, AH.get_push]
          simp [upd]
        · have hLj' := (hLL j hji).1 hLj
          unfold upd
          rw [if_neg (hjne j hm hLj')]
          exact hM.made j hj hm hLj'
      · rcases Phi.add_inv hp with ⟨rfl, _⟩ | ⟨_, hp⟩
        · exact .inr ⟨i, hpi, hmk, (hL' i).2 (.inr rfl), rfl⟩
        · exact (hM.dom b p hp).imp id fun ⟨j, a1, a2, a3, a4⟩ => ⟨j, a1, a2, (hL' j).2 (.inl a3), a4⟩
      · have hbi : b ≠ (st i).H.size := fun h => hno ⟨i, hpi, hmk, (hL' i).2 (.inr rfl), h.symm⟩
        unfold upd
        rw [if_neg hbi]
        exact hM.rest b hb fun ⟨j, a1, a2, a3, a4⟩ => hno ⟨j, a1, a2, (hL' j).2 (.inl a3), a4⟩
    | eff =>
      have hev : Is ops st .eff i := ⟨o, hi, hw, hc⟩
      have hpi : pos ≤ i := by
        rcases hM.last with h | ⟨e1, he1, hev1⟩
        · omega
        · by_cases hie : i < e1
          · exact (behind e1 hev1 hie (lastL e1 he1 hev1) (.inl hc)).elim
          · have : i ≠ e1 := fun h => hn (h ▸ lastL e1 he1 hev1)
            omega
      have hno : ∀ e, pos ≤ e → e < i → ¬ Is ops st .eff e := fun e h1 h2 h3 => by
        obtain ⟨oe, hoe, hwe, hce⟩ := h3
        have := ahead hL hi (.inr hr) (hS.eff e i oe o h2 hoe hi hc (.inl hce))
        have := (hM.effs e ⟨oe, hoe, hwe, hce⟩).1 this
        omega
      have hallm : ∀ j, j < i → Is ops st .make j → L j := fun j hj hm => by
        obtain ⟨oj, hoj, _, hcj⟩ := hm
        exact ahead hL hi (.inr hr) (hS.eff j i oj o hj hoj hi hc (.inr hcj))
      have hszp := (hT.mono hFg hpi (by omega)).1
      have hsz1 := (hT.grow hFg hin).1
      have hroi : (st i).H.ro = (st 0).H.ro := (hT.mono hFg (Nat.zero_le i) (by omega)).2
      have hsz0 := (hT.mono hFg (Nat.zero_le i) (by omega)).1
      -- the heap at hand is the text's, below its size
      have hGi : ∀ b, b < (st i).H.size → (st i).H.get b = G b := fun b hb => by
        by_cases hb0 : b < (st pos).H.size
        · rw [hM.low b hb0, hT.quietTo hFg hpi (by omega) hno hb0]
        · obtain ⟨k, hk⟩ := Nat.exists_eq_add_of_le hpi
          obtain ⟨j, a1, a2, a3, a4⟩ := hT.made k (by omega) (fun e h1 h2 => hno e h1 (by omega)) b (by omega) (by rw [← hk]; exact hb)
          have hLj := hallm j (by omega) a3
          rw [← a4, hM.made j a1 a3 hLj]
          have hb1 : (st j).H.size < (st (j + 1)).H.size := hT.sizeMake hFg a3 (Nat.lt_succ_self j) (by omega)
          exact hT.quietTo hFg (show j + 1 ≤ i by omega) (by omega) (fun e h1 h2 => hno e (by omega) h2) hb1
      have hhigh : ∀ b p, (st i).H.size ≤ b → φ b = some p → ∃ j, i + 1 ≤ j ∧ Is ops st .make j ∧ L j ∧ (st j).H.size = b := fun b p hb hp => by
        rcases hM.dom b p hp with h | ⟨j, a1, a2, a3, a4⟩
        · omega
        · refine ⟨j, ?_, a2, a3, a4⟩
          have hji : j ≠ i := fun h => hn (h ▸ a3)
          rcases Nat.lt_or_ge j i with h | h
          · have := hT.sizeMake hFg a2 h (by omega); omega
          · omega
      have hhigh2 : ∀ b p, (st i).H.size ≤ b → φ b = some p → (st (i + 1)).H.size ≤ b ∧ G b ≠ none := fun b p hb hp => by
        obtain ⟨j, a1, a2, a3, a4⟩ := hhigh b p hb hp
        have h1 := (hT.mono hFg a1 (by have := a2.lt; omega)).1
        refine ⟨by omega, ?_⟩
        obtain ⟨oj, xs, _, _, e⟩ := hT.make a2
        rw [← a4, hM.made j (by omega) a2 a3, e, AH.get_push]
        simp
      obtain ⟨prg, φg, ag, wg, hAg, hIg⟩ := hgh i (by omega)
      have hrest : InvG (aside φ (st i).H.size pr) (lowOf φ (st i).H.size) (st 0).H.ro (st i).H.get w :=
        hM.heap.restrict hIg.dom (fun b x hx => by
          obtain ⟨p, hp, hl, hv⟩ := hIg.live b x hx
          refine ⟨fun j => (wg.cell? ⟨p.B, p.o + j, none⟩).getD undef, fun j v e => ?_⟩
          obtain ⟨v', e', hs2⟩ := hv j v e
          simpa only [e', Option.getD_some] using hs2) hGi (fun b hb => AH.get_ge hb) (fun b p hb hp => ⟨by omega, (hhigh2 b p hb hp).2⟩)
      have hIi : Inv (aside φ (st i).H.size pr) (lowOf φ (st i).H.size) (st i).H w := by
        refine ⟨hroi ▸ hrest, fun b p hp => ?_, by omega, fun c hc2 => ?_⟩
        · unfold lowOf at hp; split at hp
          · assumption
          · cases hp
        · rw [hroi] at hc2
          obtain ⟨p, hp⟩ := hrom c hc2
          exact ⟨p, by rw [low_eq (by omega)]; exact hM.le _ _ hp⟩
      have hERi : ER T (lowOf φ (st i).H.size) (st i).a a' o.op := fun x hx v hv => (hAg.ev hv).low hIg.dom (hER x hx v hv)
      have hglob : ∀ g, T.glob g = true → ∃ c, lowOf φ (st i).H.size g = some ⟨g, 0, c⟩ := fun g hg => by
        obtain ⟨c, hc2⟩ := hAg.glob g hg
        have hlt := hIg.dom g _ hc2
        obtain ⟨c', hc3⟩ := hM.frame.glob g hg
        exact ⟨c', by rw [low_eq hlt]; exact hc3⟩
      refine astep_run hTab hFo hF2 hIi hERi hglob hs fun v' w' hleft => ?_
      obtain ⟨φ2, hl2, hv2, hI2, hK2⟩ := hleft
      have hI2G : InvG (aside φ (st i).H.size pr) φ2 (st 0).H.ro (st (i + 1)).H.get w' := by
        have := hI2.toInvG
        rwa [(hT.mono hFg (Nat.zero_le (i + 1)) (by omega)).2] at this
      obtain ⟨m1, m2, m3⟩ := hM.heap.merge (fun c hc2 => let ⟨p, hp⟩ := hrom c hc2; ⟨p, hM.le _ _ hp⟩) (by omega) hsz1 hl2 hI2G hI2.dom hK2 hhigh2
      refine hK _ _ _ _ (i + 1) ⟨hfr m1 (hv2.mono m2), m3, hM.le.trans m1, ?_, by omega, fun e he => ?_, .inr ⟨i, rfl, hev⟩, fun b hb => by rw [if_pos hb], fun j hj hm hLj => ?_, fun b p hp => ?_, fun b hb hno2 => ?_⟩
      · exact ⟨hK2.os.trans hM.kept.os, hK2.tape.trans hM.kept.tape, hK2.output.trans hM.kept.output, Nat.le_trans hM.kept.size hK2.size, fun k hk => (hK2.block k (.inl hk)).trans (hM.kept.block k hk)⟩
      · rcases Nat.lt_trichotomy e i with h | h | h
        · have hLe : L e := by
            obtain ⟨oe, hoe, _, hce⟩ := he
            exact ahead hL hi (.inr hr) (hS.eff e i oe o h hoe hi hc (.inl hce))
          exact ⟨fun _ => by omega, fun _ => (hL' e).2 (.inl hLe)⟩
        · subst h; exact ⟨fun _ => by omega, fun _ => (hL' e).2 (.inr rfl)⟩
        · refine ⟨fun h2 => ?_, fun h2 => by omega⟩
          exact (behind e he h ((hLL e (by omega)).1 h2) (.inl hc)).elim
      · have h1 := (hT.mono hFg hj (by have := hm.lt; omega)).1
        rw [if_neg (by omega)]
        exact hM.made j (by omega) hm ((hLL j (by omega)).1 hLj)
      · unfold over at hp
        split at hp
        · exact .inl (by assumption)
        · obtain ⟨j, a1, a2, a3, a4⟩ := hhigh b p (by omega) hp
          exact .inr ⟨j, a1, a2, (hL' j).2 (.inl a3), a4⟩
      · rw [if_neg (by omega)]
        refine hM.rest b (by omega) fun ⟨j, a1, a2, a3, a4⟩ => ?_
        have hji : j ≠ i := fun h => hn (h ▸ a3)
        rcases Nat.lt_or_ge j i with h | h
        · have := hT.sizeMake hFg a2 h (by omega); omega
        · exact hno2 ⟨j, by omega, a2, (hL' j).2 (.inl a3), a4⟩
end
end Go.Ab

/- Regions that draw their order: the theorem. -/
set_option linter.unusedVariables false
set_option linter.unusedSimpArgs false
namespace Go.Ab

def cnt (L : Nat → Prop) [DecidablePred L] : Nat → Nat
  | 0 => 0
  | k + 1 => cnt L k + if L k then 0 else 1
theorem cnt_zero {L : Nat → Prop} [DecidablePred L] : ∀ {n : Nat}, cnt L n = 0 → ∀ i, i < n → L i
  | 0, _, i, h => by omega
  | n + 1, h, i, hi => by
    simp only [cnt] at h
    by_cases hn : L n
    · rw [if_pos hn] at h
      by_cases e : i = n
      · exact e ▸ hn
      · exact cnt_zero (by omega) i (by omega)
    · rw [if_neg hn] at h; omega
theorem cnt_same {L L' : Nat → Prop} [DecidablePred L] [DecidablePred L'] : ∀ {n : Nat}, (∀ k, k < n → (L' k ↔ L k)) → cnt L' n = cnt L n
  | 0, _ => rfl
  | n + 1, h => by
    have ih := cnt_same (L := L) (L' := L') (n := n) fun k hk => h k (by omega)
    simp only [cnt]
    by_cases hn : L n
    · rw [if_pos hn, if_pos ((h n (by omega)).2 hn), ih]
    · rw [if_neg hn, if_neg (fun x => hn ((h n (by omega)).1 x)), ih]
theorem cnt_less {L L' : Nat → Prop} [DecidablePred L] [DecidablePred L'] {i : Nat} (hn : ¬ L i) (hL : ∀ k, L' k ↔ (L k ∨ k = i)) : ∀ {n : Nat}, i < n → cnt L' n + 1 = cnt L n
  | 0, h => by omega
  | n + 1, h => by
    simp only [cnt]
    by_cases e : i = n
    · subst e
      rw [if_neg hn, if_pos ((hL i).2 (.inr rfl)), cnt_same fun k hk => (hL k).trans ⟨fun h => h.resolve_right (by omega), .inl⟩]
    · have ih := cnt_less hn hL (n := n) (by omega)
      have : L' n ↔ L n := (hL n).trans ⟨fun h => h.resolve_right (by omega), .inl⟩
      by_cases hLn : L n
      · rw [if_pos hLn, if_pos (this.2 hLn)]; omega
      · rw [if_neg hLn, if_neg (fun x => hLn (this.1 x))]; omega

def lst (listed : Array Bool) (i : Nat) : Prop := listed.getD i false = true
instance (listed : Array Bool) : DecidablePred (lst listed) := fun i => inferInstanceAs (Decidable (listed.getD i false = true))
theorem lst_set {listed : Array Bool} {i : Nat} (hi : i < listed.size) (k : Nat) : lst (listed.setIfInBounds i true) k ↔ (lst listed k ∨ k = i) := by
  unfold lst
  simp only [Array.getD_eq_getD_getElem?, Array.getElem?_setIfInBounds]
  by_cases e : i = k
  · subst e; simp [hi]
  · simp [e, Ne.symm e]

section
variable {P : Program} {T : Tab} (hTab : T.Ok P) {F : CallF} (hFo : CallOk P T F) (hFg : FGrow F) (hF2 : ∀ f vs H r, F f vs H = some r → ∃ fn c, P.funcs[f]? = some fn ∧ (fn.name == "runtime.NumGoroutine") = false ∧ fn.body = some c)
  {ops : Array Oper} (hS : Stat ops) {st : Nat → St} {val : Nat → Value} (hT : Trc T F ops st val) (hgh : ∀ i, i ≤ ops.size → Ghost T st i)
  (hchk : ∀ i e oi oe, ops[i]? = some oi → ops[e]? = some oe → cls oi.op = .load → cls oe.op = .eff → ordB (Region.before ops) i e = false → ordB (Region.before ops) e i = false →
    Region.wanted oi (yielded ops (st i).a.tmps) = true → Region.wanted oe (yielded ops (st e).a.tmps) = true →
    ∃ v, aread T (st i).a oi.op (st i).H.get = some v ∧ aread T (st i).a oi.op (st e).H.get = some v ∧ aread T (st i).a oi.op (st (e + 1)).H.get = some v)
  {pr : Nat → Prop} {φ0 : Phi} {w0 : World} (hro : (st 0).H.ro ≤ (st 0).H.size) (hrom : ∀ c, c < (st 0).H.ro → ∃ p, φ0 c = some p)
include hTab hFo hFg hF2 hS hT hgh hchk hro hrom

omit hTab hFo hF2 hS hgh hchk in
/-- When all have come up. -/
theorem Mid.all {L : Nat → Prop} [DecidablePred L] (hall : ∀ i, i < ops.size → L i) {a' : Act} {w : World} {φ : Phi} {G : Nat → Option Blk} {pos : Nat} (hM : Mid T ops st val pr φ0 w0 L a' w φ G pos) : Posts T pr φ0 w0 (st ops.size).a (st ops.size).H a' w := by
  have hp : ∀ k, k ≤ ops.size → part ops val L (st 0).a k = (st k).a := by
    intro k
    induction k with
    | zero => intro _; rfl
    | succ k ih =>
      intro hk
      obtain ⟨o, ho⟩ : ∃ o, ops[k]? = some o := ⟨_, Array.getElem?_eq_getElem (by omega)⟩
      simp only [part, ih (by omega), dstOf_eq ho]
      rw [if_pos (hall k (by omega)), hT.act k o ho]
  have hno : ∀ e, pos ≤ e → e < ops.size → ¬ Is ops st .eff e := fun e h1 h2 h3 => by have := (hM.effs e h3).1 (hall e h2); omega
  have hsz := (hT.mono hFg hM.pos_le (Nat.le_refl _)).1
  have hG : G = (st ops.size).H.get := funext fun b => by
    by_cases hb : b < (st pos).H.size
    · rw [hM.low b hb, hT.quietTo hFg hM.pos_le (Nat.le_refl _) hno hb]
    · by_cases hb2 : b < (st ops.size).H.size
      · obtain ⟨k, hk⟩ := Nat.exists_eq_add_of_le hM.pos_le
        obtain ⟨j, a1, a2, a3, a4⟩ := hT.made k (by omega) (fun e h1 h2 => hno e h1 (by omega)) b (by omega) (by rw [← hk]; exact hb2)
        rw [← a4, hM.made j a1 a3 (hall j a3.lt)]
        have hb1 : (st j).H.size < (st (j + 1)).H.size := hT.sizeMake hFg a3 (Nat.lt_succ_self j) (by have := a3.lt; omega)
        exact (hT.quietTo hFg (show j + 1 ≤ ops.size from a3.lt) (Nat.le_refl _) (fun e h1 h2 => hno e (by omega) h2) hb1).symm
      · rw [AH.get_ge (by omega)]
        refine hM.rest b (by omega) fun ⟨j, a1, a2, a3, a4⟩ => ?_
        have := hT.sizeMake hFg a2 a2.lt (Nat.le_refl _)
        omega
  have hroN := (hT.mono hFg (Nat.zero_le ops.size) (Nat.le_refl _)).2
  have hszN := (hT.mono hFg (Nat.zero_le ops.size) (Nat.le_refl _)).1
  refine ⟨φ, hM.le, by rw [← hp ops.size (Nat.le_refl _)]; exact hM.frame, ⟨?_, fun b p hb => ?_, by omega, fun c hc => ?_⟩, hM.kept⟩
  · rw [hroN, ← hG]; exact hM.heap
  · rcases hM.dom b p hb with h | ⟨j, a1, a2, a3, a4⟩
    · omega
    · have := hT.sizeMake hFg a2 a2.lt (Nat.le_refl _); omega
  · rw [hroN] at hc
    obtain ⟨p, hp2⟩ := hrom c hc
    exact ⟨p, hM.le _ _ hp2⟩

theorem any_run {Q : Exit → Act → World → Prop} (hQ : ∀ a' w', Posts T pr φ0 w0 (st ops.size).a (st ops.size).H a' w' → Q .normal a' w') : ∀ (fuel : Nat) (listed : Array Bool) (a' : Act) (w : World) (φ : Phi) (G : Nat → Option Blk) (pos : Nat), listed.size = ops.size → Closed ops (lst listed) →
    Mid T ops st val pr φ0 w0 (lst listed) a' w φ G pos → cnt (lst listed) ops.size ≤ fuel → wpAny P .any ops Q fuel listed a' w := by
  intro fuel
  have hreadyL : ∀ listed : Array Bool, listed.size = ops.size → ∀ i, i ∈ Region.ready .any ops listed → i < ops.size ∧ ¬ lst listed i ∧ ∃ o, ops[i]? = some o ∧ ∀ e ∈ o.after, Region.binds .any e = true → lst listed e.on := by
    intro listed hls i hi
    obtain ⟨h1, o, ho, h2⟩ := mem_ready.1 hi
    have hin := (Array.getElem?_eq_some_iff.1 ho).1
    refine ⟨hin, fun h => ?_, o, ho, h2⟩
    unfold lst at h
    simp only [Array.getD_eq_getD_getElem?, Array.getElem?_eq_getElem (show i < listed.size by omega), Option.getD_some] at h h1
    rw [h] at h1; cases h1
  have hempty : ∀ listed : Array Bool, listed.size = ops.size → Region.ready .any ops listed = [] → ∀ i, i < ops.size → lst listed i := by
    intro listed hls hr i
    induction i using Nat.strongRecOn with
    | ind i ih =>
      intro hi
      by_cases hL : lst listed i
      · exact hL
      · exfalso
        obtain ⟨o, ho⟩ : ∃ o, ops[i]? = some o := ⟨_, Array.getElem?_eq_getElem hi⟩
        have hm : i ∈ Region.ready .any ops listed := mem_ready.2 ⟨by
          unfold lst at hL
          simp only [Array.getD_eq_getD_getElem?, Array.getElem?_eq_getElem (show i < listed.size by omega), Option.getD_some] at hL ⊢
          simpa using hL, o, ho, fun e he hb => by
          have := hS.back i o ho e he hb
          exact ih e.on this (by omega)⟩
        rw [hr] at hm; cases hm
  induction fuel with
  | zero =>
    intro listed a' w φ G pos hls hcl hM hc
    have hall := cnt_zero (Nat.le_zero.1 hc)
    refine ⟨?_, hQ _ _ (hM.all hFg hT hro hrom hall)⟩
    cases hr : Region.ready .any ops listed with
    | nil => rfl
    | cons i l =>
      obtain ⟨h1, h2, _⟩ := hreadyL listed hls i (by rw [hr]; simp)
      exact absurd (hall i h1) h2
  | succ fuel ih =>
    intro listed a' w φ G pos hls hcl hM hc
    refine ⟨fun hr => hQ _ _ (hM.all hFg hT hro hrom (hempty listed hls hr)), fun i hi => ?_⟩
    obtain ⟨h1, h2, o, ho, h3⟩ := hreadyL listed hls i hi
    have hset := lst_set (listed := listed) (i := i) (by omega)
    refine Mid.step hTab hFo hFg hF2 hS hT hgh hchk hro hrom hcl (fun k hk => ?_) hM ho h3 h2 hset fun a2 w2 φ2 G2 pos2 hM2 => ?_
    · unfold lst at hk
      by_cases hks : k < listed.size
      · omega
      · simp [Array.getD_eq_getD_getElem?, Array.getElem?_eq_none (Nat.le_of_not_lt hks)] at hk
    · refine ih _ a2 w2 φ2 G2 pos2 (by simpa using hls) (fun j oj hoj hLj e he hb => ?_) hM2 (by have := cnt_less h2 hset (n := ops.size) h1; omega)
      rcases (hset j).1 hLj with hLj | rfl
      · exact (hset _).2 (.inl (hcl j oj hoj hLj e he hb))
      · rw [ho] at hoj; cases hoj
        exact (hset _).2 (.inl (h3 e he hb))
end

theorem areg_trace {T : Tab} {F : CallF} {ops : Array Oper} : ∀ {l : List Oper} {s : St} {r : Act × AH}, areg T F ops l s.a s.H = some r → ∃ sts, atrace T F ops l s = some sts
  | [], s, r, h => ⟨[s], rfl⟩
  | o :: rest, s, r, h => by
    simp only [areg] at h
    simp only [atrace]
    split at h
    · rename_i hw
      rw [if_pos hw]
      split at h
      · rename_i v H1 hs
        obtain ⟨sts, hsts⟩ := areg_trace (s := ⟨s.a.put o.dst v, H1⟩) h
        exact ⟨s :: sts, by simp [hs, hsts]⟩
      · cases h
    · rename_i hw
      rw [if_neg hw]
      obtain ⟨sts, hsts⟩ := areg_trace (s := ⟨s.a.put o.dst undef, s.H⟩) h
      exact ⟨s :: sts, by simp [hsts]⟩

theorem mem_pairs {ops : Array Oper} {i e : Nat} {oi oe : Oper} (hi : ops[i]? = some oi) (he : ops[e]? = some oe) (h1 : cls oi.op = .load) (h2 : cls oe.op = .eff) (h3 : ordB (Region.before ops) i e = false) (h4 : ordB (Region.before ops) e i = false) : (i, e) ∈ drawPairs ops := by
  unfold drawPairs
  refine List.mem_flatMap.2 ⟨i, List.mem_range.2 (Array.getElem?_eq_some_iff.1 hi).1, List.mem_filterMap.2 ⟨e, List.mem_range.2 (Array.getElem?_eq_some_iff.1 he).1, ?_⟩⟩
  simp [hi, he, h1, h2, h3, h4]

theorem adraw_run {P : Program} {T : Tab} (hTab : T.Ok P) {F : CallF} (hFo : CallOk P T F) (hFg : FGrow F) (hF2 : ∀ f vs H r, F f vs H = some r → ∃ fn c, P.funcs[f]? = some fn ∧ (fn.name == "runtime.NumGoroutine") = false ∧ fn.body = some c) : DrawOk P T (adraw T F) := by
  intro id ops a H a1 H1 h pr φ a' w Q hA hI hQ
  have hreg := adraw_reg h
  have hstat : Stat ops := by
    unfold adraw at h
    split at h
    · rename_i hs; exact statOk_spec hs
    · cases h
  obtain ⟨sts, hsts⟩ := areg_trace (s := ⟨a, H⟩) hreg
  obtain ⟨hlen, h0, s', hlast, hreg2⟩ := atrace_last hsts
  rw [hreg] at hreg2
  have ha1 : s' = ⟨a1, H1⟩ := by cases s'; simp at hreg2; simp [hreg2]
  have hpairs : ∀ p ∈ drawPairs ops, chk T ops sts p = true := by
    intro p hp
    unfold adraw at h
    split at h
    · split at h
      · rename_i hnil; rw [hnil] at hp; cases hp
      · rename_i hcons
        rw [hsts] at h
        simp only at h
        split at h
        · rename_i hall
          rw [← hcons] at hall
          exact List.all_eq_true.1 hall p hp
        · cases h
    · cases h
  have hn : sts.length = ops.size + 1 := by simpa using hlen
  let st : Nat → St := fun i => sts.getD i ⟨a, H⟩
  have hget : ∀ i s, sts[i]? = some s → st i = s := fun i s h => by simp [st, List.getD_eq_getElem?_getD, h]
  have hst0 : st 0 = ⟨a, H⟩ := hget 0 _ h0
  have hstn : st ops.size = ⟨a1, H1⟩ := by
    refine hget _ _ ?_
    rw [← ha1, ← hlast, List.getLast?_eq_getElem?, hn]
    rfl
  clear_value st
  have hval : ∀ i, ∃ v : Value, ∀ o, ops[i]? = some o → (Region.wanted o (yielded ops (st i).a.tmps) = true → astep T F (st i).a o (st i).H = some (v, (st (i + 1)).H)) ∧ (Region.wanted o (yielded ops (st i).a.tmps) = false → v = undef ∧ (st (i + 1)).H = (st i).H) ∧ (st (i + 1)).a = (st i).a.put o.dst v := by
    intro i
    cases ho : ops[i]? with
    | none => exact ⟨undef, fun o h => by cases h⟩
    | some o =>
      obtain ⟨si, sj, e1, e2, e3⟩ := atrace_step hsts i o (by simpa using ho)
      rw [hget i si e1, hget (i + 1) sj e2]
      rcases e3 with ⟨hw, v, H', hs, rfl⟩ | ⟨hw, rfl⟩
      · exact ⟨v, fun o' h => by cases h; exact ⟨fun _ => hs, (fun h => by rw [hw] at h; cases h), rfl⟩⟩
      · exact ⟨undef, fun o' h => by cases h; exact ⟨(fun h => by rw [hw] at h; cases h), fun _ => ⟨rfl, rfl⟩, rfl⟩⟩
  obtain ⟨val, hv⟩ := Classical.axiomOfChoice hval
  have hT : Trc T F ops st val := ⟨fun i o ho hw => (hv i o ho).1 hw, fun i o ho hw => (hv i o ho).2.1 hw, fun i o ho => (hv i o ho).2.2⟩
  have hgh : ∀ i, i ≤ ops.size → Ghost T st i := by
    intro i
    induction i with
    | zero => intro _; exact ⟨pr, φ, a', w, by rw [hst0]; exact hA, by rw [hst0]; exact hI⟩
    | succ i ih =>
      intro hi
      obtain ⟨pr2, φ2, a2, w2, hA2, hI2⟩ := ih (by omega)
      obtain ⟨o, ho⟩ : ∃ o, ops[i]? = some o := ⟨_, Array.getElem?_eq_getElem (by omega)⟩
      cases hw : Region.wanted o (yielded ops (st i).a.tmps) with
      | false =>
        obtain ⟨e1, e2⟩ := hT.no i o ho hw
        exact ⟨pr2, φ2, a2.put o.dst undef, w2, by rw [hT.act i o ho, e1]; exact hA2.put o.dst (VRel.unit φ2), by rw [e2]; exact hI2⟩
      | true =>
        have hs := hT.yes i o ho hw
        unfold astep at hs
        split at hs
        · rename_i f vs hc
          obtain ⟨vs', hr, hlv, hvv⟩ := acallee_inv (P := P) (hA2.er _) hc (hF2 f vs _ _ hs) w2
          obtain ⟨e, w3, fr, ⟨r', he, φ3, hl3, hv3, hI3, hK3⟩, _⟩ := hFo f vs _ _ _ hs pr2 φ2 w2 vs' hI2 hA2.glob hlv hvv []
          exact ⟨pr2, φ3, a2.put o.dst r', w3, by rw [hT.act i o ho]; exact (hA2.mono hl3).put o.dst hv3, hI3⟩
        · obtain ⟨r, w3, v', hr, hrv, φ3, hl3, hv3, hI3, hK3⟩ := aop_run hTab (P := P) hI2 (hA2.er _) hs
          exact ⟨pr2, φ3, a2.put o.dst v', w3, by rw [hT.act i o ho]; exact (hA2.mono hl3).put o.dst hv3, hI3⟩
  have hchk : ∀ i e oi oe, ops[i]? = some oi → ops[e]? = some oe → cls oi.op = .load → cls oe.op = .eff → ordB (Region.before ops) i e = false → ordB (Region.before ops) e i = false →
      Region.wanted oi (yielded ops (st i).a.tmps) = true → Region.wanted oe (yielded ops (st e).a.tmps) = true →
      ∃ v, aread T (st i).a oi.op (st i).H.get = some v ∧ aread T (st i).a oi.op (st e).H.get = some v ∧ aread T (st i).a oi.op (st (e + 1)).H.get = some v := by
    intro i e oi oe hi he h1 h2 h3 h4 hwi hwe
    have hc := hpairs (i, e) (mem_pairs hi he h1 h2 h3 h4)
    have hin := (Array.getElem?_eq_some_iff.1 hi).1
    have hen := (Array.getElem?_eq_some_iff.1 he).1
    have gi : sts[i]? = some (st i) := by rw [List.getElem?_eq_getElem (by omega)]; congr 1; exact (hget i _ (List.getElem?_eq_getElem (by omega))).symm
    have ge : sts[e]? = some (st e) := by rw [List.getElem?_eq_getElem (by omega)]; congr 1; exact (hget e _ (List.getElem?_eq_getElem (by omega))).symm
    have ge1 : sts[e + 1]? = some (st (e + 1)) := by rw [List.getElem?_eq_getElem (by omega)]; congr 1; exact (hget (e + 1) _ (List.getElem?_eq_getElem (by omega))).symm
    unfold chk at hc
    simp only [gi, ge, ge1, hi, he, hwi, hwe, Bool.and_self, if_true, Bool.and_eq_true] at hc
    obtain ⟨v, c1, c2⟩ := sameV_eq hc.1
    obtain ⟨v2, c3, c4⟩ := sameV_eq hc.2
    rw [c2] at c4; cases c4
    exact ⟨v, c2, c1, c3⟩
  have hro : (st 0).H.ro ≤ (st 0).H.size := by rw [hst0]; exact hI.ro
  have hrom : ∀ c, c < (st 0).H.ro → ∃ p, φ c = some p := by rw [hst0]; exact hI.rom
  have hdom0 : ∀ b p, φ b = some p → b < (st 0).H.size := by rw [hst0]; exact hI.dom
  refine wp_region_any hTab.mixed ?_
  have hL0 : ∀ i, ¬ lst (Array.replicate ops.size false) i := fun i h => by
    unfold lst at h
    simp only [Array.getD_eq_getD_getElem?, Array.getElem?_replicate] at h
    split at h <;> simp at h
  have hpart : ∀ k, part ops val (lst (Array.replicate ops.size false)) (st 0).a k = (st 0).a := by
    intro k
    induction k with
    | zero => rfl
    | succ k ih => simp only [part]; rw [if_neg (hL0 k), ih]
  have hcnt : ∀ k, cnt (lst (Array.replicate ops.size false)) k = k := by
    intro k
    induction k with
    | zero => rfl
    | succ k ih => simp only [cnt]; rw [if_neg (hL0 k), ih]
  refine any_run (val := val) hTab hFo hFg hF2 hstat hT hgh hchk hro hrom (pr := pr) (w0 := w) (fun a2 w2 hp => hQ a2 w2 (by rw [hstn] at hp; exact hp)) ops.size (Array.replicate ops.size false) a' { w with drawn := w.drawn + 1 } φ H.get 0 (by simp)
    (fun j o ho hLj => absurd hLj (hL0 j)) ?_ (by rw [hcnt]; exact Nat.le_refl _)
  refine ⟨by rw [hpart, hst0]; exact hA, by rw [hst0]; exact hI.toInvG.drew, Phi.le.refl _, Kept.drew pr w, Nat.zero_le _, fun e he => ⟨fun h => absurd h (hL0 e), fun h => by omega⟩, .inl rfl, fun b hb => by rw [hst0], fun j _ _ hLj => absurd hLj (hL0 j), fun b p hp => .inl (hdom0 b p hp), fun b hb _ => AH.get_ge (by rw [hst0] at hb; exact hb)⟩

/-- A call of the abstract machine. -/
abbrev arun (T : Tab) : Nat → CallF := acall T (adraw T)
theorem arun_ok {P : Program} {T : Tab} (hTab : T.Ok P) : ∀ n, CallOk P T (arun T n) :=
  acall_run hTab (E := FGrow) acall_grow fun F hF hF2 hF3 => adraw_run hTab hF hF3 hF2
end Go.Ab

/- More rounds answer the same. -/
set_option linter.unusedVariables false
set_option linter.unusedSimpArgs false
namespace Go.Ab

def FLe (F G : CallF) : Prop := ∀ f vs H r, F f vs H = some r → G f vs H = some r
def DLe (D E : Array Oper → Act → AH → Option (Act × AH)) : Prop := ∀ ops a H r, D ops a H = some r → E ops a H = some r
theorem FLe.refl (F : CallF) : FLe F F := fun _ _ _ _ h => h

theorem astep_mono {T : Tab} {F G : CallF} (h : FLe F G) {a : Act} {o : Oper} {H : AH} {r : Value × AH} (e : astep T F a o H = some r) : astep T G a o H = some r := by
  unfold astep at e ⊢
  split at e
  · exact h _ _ _ _ e
  · exact e
theorem areg_mono {T : Tab} {F G : CallF} (h : FLe F G) {ops : Array Oper} : ∀ {l : List Oper} {a : Act} {H : AH} {r : Act × AH}, areg T F ops l a H = some r → areg T G ops l a H = some r
  | [], a, H, r, e => e
  | o :: l, a, H, r, e => by
    simp only [areg] at e ⊢
    split at e
    · rename_i hw
      split at e
      · rename_i v H1 hs
        rw [if_pos hw, astep_mono h hs]
        exact areg_mono h e
      · cases e
    · rename_i hw
      rw [if_neg hw]
      exact areg_mono h e
theorem atrace_mono {T : Tab} {F G : CallF} (h : FLe F G) {ops : Array Oper} : ∀ {l : List Oper} {s : St} {r : List St}, atrace T F ops l s = some r → atrace T G ops l s = some r
  | [], s, r, e => e
  | o :: l, s, r, e => by
    simp only [atrace] at e ⊢
    split at e
    · rename_i hw
      split at e
      · rename_i v H1 hs
        rw [if_pos hw, astep_mono h hs]
        simp only
        split at e
        · rename_i k hk; rw [atrace_mono h hk]; exact e
        · cases e
      · cases e
    · rename_i hw
      rw [if_neg hw]
      split at e
      · rename_i k hk; rw [atrace_mono h hk]; exact e
      · cases e
theorem adraw_mono {T : Tab} {F G : CallF} (h : FLe F G) : DLe (adraw T F) (adraw T G) := by
  intro ops a H r e
  unfold adraw at e ⊢
  split at e
  · rename_i hs
    rw [if_pos hs]
    split at e
    · exact areg_mono h e
    · rename_i p ps hp
      split at e
      · rename_i sts ht
        rw [atrace_mono h ht]
        exact e
      · cases e
  · cases e
theorem acode_mono {T : Tab} {F G : CallF} {D E : Array Oper → Act → AH → Option (Act × AH)} (h : FLe F G) (k : DLe D E) : ∀ (n m : Nat) (c : Code) (a : Act) (H : AH) (r : AExit × Act × AH), n ≤ m → acode T F D n c a H = some r → acode T G E m c a H = some r := by
  intro n
  induction n with
  | zero => intro m c a H r _ e; simp [acode] at e
  | succ n ih =>
    intro m c a H r hm e
    obtain ⟨m, rfl⟩ : ∃ j, m = j + 1 := ⟨m - 1, by omega⟩
    have ih := fun c a H r e => ih m c a H r (by omega) e
    cases c with
    | region id ops d =>
      cases d
      · simp only [acode] at e ⊢
        split at e
        · rename_i hs; rw [areg_mono h hs]; exact e
        · cases e
      · simp only [acode] at e ⊢
        split at e
        · rename_i hs; rw [k _ _ _ _ hs]; exact e
        · cases e
    | seq x y =>
      simp only [acode] at e ⊢
      split at e
      · rename_i hs; rw [ih _ _ _ _ hs]; exact ih _ _ _ _ e
      · rename_i hs
        rw [ih _ _ _ _ e]
        split
        · rename_i hx _ _ heq
          cases heq
          exact absurd e (hs _ _)
        · rfl
    | cond c x y =>
      simp only [acode] at e ⊢
      split at e
      · exact ih _ _ _ _ e
      · exact ih _ _ _ _ e
      · cases e
    | block id x =>
      simp only [acode] at e ⊢
      split at e
      · rename_i hs; rw [ih _ _ _ _ hs]; exact e
      · rename_i hs
        rw [ih _ _ _ _ e]
        split
        · rename_i heq; cases heq; exact absurd e (hs _ _ _)
        · rfl
    | loop x =>
      simp only [acode] at e ⊢
      split at e
      · rename_i hs; rw [ih _ _ _ _ hs]; exact ih _ _ _ _ e
      · rename_i hs
        rw [ih _ _ _ _ e]
        split
        · rename_i heq; cases heq; exact absurd e (hs _ _)
        · rfl
    | _ => simp only [acode] at e ⊢ <;> exact e
theorem arun_mono {T : Tab} : ∀ (n m : Nat), n ≤ m → FLe (arun T n) (arun T m) := by
  intro n
  induction n with
  | zero => intro m _ f vs H r e; simp [arun, acall] at e
  | succ n ih =>
    intro m hm f vs H r e
    obtain ⟨m, rfl⟩ : ∃ j, m = j + 1 := ⟨m - 1, by omega⟩
    have ih := ih m (by omega)
    simp only [arun, acall] at e ⊢
    split at e
    · cases e
    · rename_i fn hf
      split at e
      · cases e
      · rename_i c hc
        split at e
        · rename_i hs; rw [acode_mono ih (adraw_mono ih) n m _ _ _ _ (by omega) hs]; exact e
        · rename_i hs; rw [acode_mono ih (adraw_mono ih) n m _ _ _ _ (by omega) hs]; exact e
        · cases e
end Go.Ab

/- Reasoning about the abstract machine: what must hold so that code, from what is known of a frame, answers as it should. -/
set_option linter.unusedVariables false
set_option linter.unusedSimpArgs false
namespace Go.Ab

/-! ### Operations over what is known of the operands -/
abbrev Ev := Operand → Option Value
def gvals (g : Ev) : List Operand → Option (List Value)
  | [] => some []
  | x :: xs => match g x with
    | none => none
    | some v => match gvals g xs with
      | none => none
      | some vs => some (v :: vs)
def gparts (g : Ev) : List (Nat × Operand) → Option (List (Nat × Value))
  | [] => some []
  | (i, x) :: xs => match g x with
    | none => none
    | some v => if isA v then (match gparts g xs with
      | none => none
      | some vs => some ((i, v) :: vs)) else none
def gopt (g : Ev) : Option Operand → Option (Option Value)
  | none => some none
  | some x => match g x with
    | some v => some (some v)
    | none => none
def pick2 (c x y : Option Value) : Option Value :=
  match c, x, y with
  | some (.bool true), some u, some _ => some u
  | some (.bool false), some _, some v => some v
  | _, _, _ => none
def build2 (T : Tab) (t : TypeId) (vs : Option (List (Nat × Value))) : Option Value :=
  match vs with
  | some vs => abuild T t vs
  | none => none
def nil2 (x : Option Value) : Option Value :=
  match x with
  | some (.pointer (some p)) => some (.pointer (some p))
  | _ => none
def bin2 (T : Tab) (op : BinOp) (t : TypeId) (x y : Option Value) : Option Value :=
  match x, y with
  | some u, some v => abin T op t u v
  | _, _ => none
def un2 (op : UnOp) (x : Option Value) : Option Value :=
  match x with
  | some v => aun op v
  | none => none
def conv2 (T : Tab) (s d : TypeId) (x : Option Value) : Option Value :=
  match x with
  | some v => aconvert T s d v
  | none => none
def func2 (f : FuncId) (first : Array Operand) (vs : Option (List Value)) : Option Value :=
  match vs with
  | some vs => if first.size = 0 ∧ vs.all isPtr = true then some (.func (.func f) #[] vs.toArray) else none
  | none => none
def slice2 (T : Tab) (t : TypeId) (x : Option Value) (lo hi : Option (Option Value)) : Option Value :=
  match x, lo, hi with
  | some v, some l, some h => aslice T t v l h
  | _, _, _ => none
def faddr2 (T : Tab) (t : TypeId) (x : Option Value) (f : Nat) : Option Value :=
  match x with
  | some v => afield T t v f
  | none => none
def field2 (T : Tab) (t : TypeId) (x : Option Value) (f : Nat) : Option Value :=
  match x with
  | some v => apick T t v f
  | none => none
def iaddr2 (T : Tab) (t : TypeId) (x i : Option Value) : Option Value :=
  match x, i with
  | some u, some v => aindex T t u v
  | _, _ => none
def index2 (T : Tab) (t : TypeId) (x i : Option Value) : Option Value :=
  match T.ty t, x, i with
  | some { desc := .string, .. }, some (.string s), some (.int _ n) => if 0 ≤ n then (match s[n.toNat]? with | some b => some (.int .u8 b.toNat) | none => none) else none
  | _, _, _ => none
def extract2 (x : Option Value) (i : Nat) : Option Value :=
  match x with
  | some v => aextract v i
  | none => none
def pureB2 (T : Tab) (b : Builtin) (tys : List TypeId) (vs : Option (List Value)) : Option Value :=
  match vs with
  | some vs => apureB T b tys vs
  | none => none
def load2 (T : Tab) (t : TypeId) (x : Option Value) (G : Nat → Option Blk) : Option Value :=
  match x with
  | some v => aload T t v G
  | none => none
def alloc2 (T : Tab) (t : TypeId) (H : AH) : Option (Value × AH) := anew H (aalloc T t H.size)
def box2 (x : Option Value) (H : AH) : Option (Value × AH) :=
  match x with
  | some v => anew H (abox v H.size)
  | none => none
def bslice2 (T : Tab) (t : TypeId) (k : Nat) (vs : Option (List (Nat × Value))) (H : AH) : Option (Value × AH) :=
  match vs with
  | some vs => anew H (abuildSlice T t k vs H.size)
  | none => none
def mslice2 (T : Tab) (t : TypeId) (x y : Option Value) (H : AH) : Option (Value × AH) :=
  match x, y with
  | some u, some v => anew H (amake T t u v H.size)
  | _, _ => none
def store2 (T : Tab) (t : TypeId) (x y : Option Value) (H : AH) : Option (Value × AH) :=
  match x, y with
  | some u, some v => (match astore T t u v H with | some H' => some (undef, H') | none => none)
  | _, _ => none
def effB2 (T : Tab) (b : Builtin) (tys : List TypeId) (vs : Option (List Value)) (H : AH) : Option (Value × AH) :=
  match vs with
  | some vs => aeffB T b tys vs H
  | none => none
def callee2 (f : Option Value) (vs : Option (List Value)) : Option (FuncId × List Value) :=
  match f, vs with
  | some (.func (.func g) first caps), some vs => if first.size = 0 then some (g, vs ++ caps.toList) else none
  | _, _ => none

/-! ### What is known of a frame: some temporaries, one by one; some of the others -/
def nth : List Value → Nat → Option Value
  | [], _ => none
  | v :: _, 0 => some v
  | _ :: V, n + 1 => nth V n
def assoc : List (Nat × Value) → Nat → Option Value
  | [], _ => none
  | (t, v) :: A, n => if t = n then some v else assoc A n
def look : List Nat → List Value → List (Nat × Value) → Nat → Option Value
  | k :: lo, v :: V, A, t => if k = t then some v else look lo V A t
  | _, _, A, t => assoc A t
def hasK : List Nat → Nat → Bool
  | [], _ => false
  | k :: lo, t => if k = t then true else hasK lo t
def setK : List Nat → List Value → Nat → Value → List Value
  | k :: lo, v :: V, t, x => if k = t then x :: V else v :: setK lo V t x
  | _, _, _, _ => []
def ev (T : Tab) (lo : List Nat) (V : List Value) (A : List (Nat × Value)) : Ev
  | .tmp t => look lo V A t
  | .const v => if closedA v then some v else none
  | .func f => some (.func (.func f) #[] #[])
  | .global g => if T.glob g then some (.pointer (some ⟨g, 0, none⟩)) else none

theorem setK_length : ∀ (lo : List Nat) (V : List Value) (t : Nat) (x : Value), V.length = lo.length → (setK lo V t x).length = lo.length
  | [], V, t, x, h => by cases V <;> simp [setK]
  | k :: lo, [], t, x, h => by simp at h
  | k :: lo, v :: V, t, x, h => by
    simp only [setK]
    split
    · simpa using h
    · simp only [List.length_cons] at h ⊢; rw [setK_length lo V t x (by omega)]
theorem look_setK : ∀ (lo : List Nat) (V : List Value) (A : List (Nat × Value)) (t u : Nat) (x y : Value), V.length = lo.length → look lo (setK lo V t x) A u = some y → (u = t ∧ hasK lo t = true ∧ y = x) ∨ (look lo V A u = some y ∧ (u = t → hasK lo t = false))
  | [], V, A, t, u, x, y, hl, h => by
    have : V = [] := List.eq_nil_of_length_eq_zero hl
    subst this
    exact .inr ⟨by simpa [setK, look] using h, fun _ => rfl⟩
  | k :: lo, [], A, t, u, x, y, hl, h => by simp at hl
  | k :: lo, v :: V, A, t, u, x, y, hl, h => by
    have hl' : V.length = lo.length := by simpa using hl
    simp only [setK] at h
    by_cases hk : k = t
    · subst hk
      rw [if_pos rfl] at h
      simp only [look, hasK] at h ⊢
      by_cases hu : k = u
      · subst hu; rw [if_pos rfl] at h; cases h; exact .inl ⟨rfl, by simp, rfl⟩
      · rw [if_neg hu] at h ⊢; exact .inr ⟨h, fun e => absurd e.symm hu⟩
    · rw [if_neg hk] at h
      simp only [look, hasK, if_neg hk] at h ⊢
      by_cases hu : k = u
      · subst hu; rw [if_pos rfl] at h ⊢; exact .inr ⟨h, fun e => absurd e hk⟩
      · rw [if_neg hu] at h ⊢; exact look_setK lo V A t u x y hl' h
theorem look_off : ∀ (lo : List Nat) (V : List Value) (A : List (Nat × Value)) (t u : Nat) (x y : Value), V.length = lo.length → look lo V ((t, x) :: A) u = some y → (u = t ∧ y = x ∧ hasK lo t = false) ∨ (look lo V A u = some y ∧ (u = t → hasK lo t = true))
  | [], V, A, t, u, x, y, hl, h => by
    have : V = [] := List.eq_nil_of_length_eq_zero hl
    subst this
    simp only [look, assoc] at h
    by_cases ht : t = u
    · subst ht; rw [if_pos rfl] at h; cases h; exact .inl ⟨rfl, rfl, rfl⟩
    · rw [if_neg ht] at h; exact .inr ⟨h, fun e => absurd e.symm ht⟩
  | k :: lo, [], A, t, u, x, y, hl, h => by simp at hl
  | k :: lo, v :: V, A, t, u, x, y, hl, h => by
    have hl' : V.length = lo.length := by simpa using hl
    simp only [look, hasK] at h ⊢
    by_cases hu : k = u
    · subst hu; rw [if_pos rfl] at h ⊢; exact .inr ⟨h, fun e => by rw [if_pos e]⟩
    · rw [if_neg hu] at h ⊢
      rcases look_off lo V A t u x y hl' h with ⟨h1, h2, h3⟩ | ⟨h1, h2⟩
      · subst h1; exact .inl ⟨rfl, h2, by rw [if_neg hu]; exact h3⟩
      · exact .inr ⟨h1, fun e => by subst e; rw [if_neg hu]; exact h2 rfl⟩
theorem look_less : ∀ (lo : List Nat) (V : List Value) (A B : List (Nat × Value)) (u : Nat) (y : Value), (∀ t v, assoc B t = some v → assoc A t = some v) → look lo V B u = some y → look lo V A u = some y
  | [], V, A, B, u, y, hs, h => by cases V <;> exact hs _ _ h
  | k :: lo, [], A, B, u, y, hs, h => hs _ _ h
  | k :: lo, v :: V, A, B, u, y, hs, h => by
    simp only [look] at h ⊢
    split at h
    · rename_i e; rw [if_pos e]; exact h
    · rename_i e; rw [if_neg e]; exact look_less lo V A B u y hs h

structure Knows (lo : List Nat) (nt : Nat) (V : List Value) (A : List (Nat × Value)) (a : Act) : Prop where
  size : a.tmps.size = nt
  len : V.length = lo.length
  at_ : ∀ t v, look lo V A t = some v → a.tmps.getD t undef = v

theorem Knows.ev {T : Tab} {lo : List Nat} {nt : Nat} {V : List Value} {A : List (Nat × Value)} {a : Act} (h : Knows lo nt V A a) (x : Operand) (v : Value) (e : ev T lo V A x = some v) : aev T a x = some v := by
  cases x with
  | tmp t => simp only [Ab.ev] at e; simp only [aev]; rw [h.at_ t v e]
  | const c => exact e
  | func f => exact e
  | global g => exact e
theorem Knows.put {lo : List Nat} {nt : Nat} {V : List Value} {A : List (Nat × Value)} {a : Act} (h : Knows lo nt V A a) {d : Nat} (hd : d < nt) (v : Value) :
    (hasK lo d = true → Knows lo nt (setK lo V d v) A (a.put (some d) v)) ∧ (¬ hasK lo d = true → Knows lo nt V ((d, v) :: A) (a.put (some d) v)) := by
  have hs := h.size
  have at1 : (a.put (some d) v).tmps.getD d undef = v := by simp [Act.put, Array.getElem?_setIfInBounds, hs, hd]
  have at2 : ∀ t, t ≠ d → (a.put (some d) v).tmps.getD t undef = a.tmps.getD t undef := fun t ht => by
    simp only [Act.put, Array.getD_eq_getD_getElem?, Array.getElem?_setIfInBounds]
    rw [if_neg (fun e => ht e.symm)]
  constructor
  · intro hl
    refine ⟨by simp [Act.put, hs], setK_length _ _ _ _ h.len, fun t u e => ?_⟩
    rcases look_setK lo V A d t v u h.len e with ⟨rfl, _, rfl⟩ | ⟨h1, h2⟩
    · exact at1
    · by_cases ht : t = d
      · rw [h2 ht] at hl; cases hl
      · rw [at2 t ht]; exact h.at_ t u h1
  · intro hl
    refine ⟨by simp [Act.put, hs], h.len, fun t u e => ?_⟩
    rcases look_off lo V A d t v u h.len e with ⟨rfl, rfl, _⟩ | ⟨h1, h2⟩
    · exact at1
    · by_cases ht : t = d
      · exact absurd (h2 ht) hl
      · rw [at2 t ht]; exact h.at_ t u h1
/-- Less is known. -/
theorem Knows.less {lo : List Nat} {nt : Nat} {V : List Value} {A B : List (Nat × Value)} {a : Act} (h : Knows lo nt V A a) (hs : ∀ t v, assoc B t = some v → assoc A t = some v) : Knows lo nt V B a :=
  ⟨h.size, h.len, fun t v e => h.at_ t v (look_less lo V A B t v hs e)⟩

section
variable {T : Tab} {g : Ev} {a : Act} (hg : ∀ x v, g x = some v → aev T a x = some v)
include hg
theorem gvals_ok : ∀ {xs : List Operand} {vs : List Value}, gvals g xs = some vs → avals T a xs = some vs
  | [], vs, e => e
  | x :: xs, vs, e => by
    simp only [gvals] at e
    simp only [avals]
    split at e
    · cases e
    · rename_i v hv
      rw [hg _ _ hv]
      split at e
      · cases e
      · rename_i ws hws; rw [gvals_ok hws]; exact e
theorem gparts_ok : ∀ {xs : List (Nat × Operand)} {vs : List (Nat × Value)}, gparts g xs = some vs → aparts T a xs = some vs
  | [], vs, e => e
  | (i, x) :: xs, vs, e => by
    simp only [gparts] at e
    simp only [aparts]
    split at e
    · cases e
    · rename_i v hv
      rw [hg _ _ hv]
      simp only
      split at e
      · rename_i hA
        rw [if_pos hA]
        split at e
        · cases e
        · rename_i ws hws; rw [gparts_ok hws]; exact e
      · cases e
theorem gopt_ok {x : Option Operand} {v : Option Value} (e : gopt g x = some v) : aopt T a x = some v := by
  cases x with
  | none => exact e
  | some x =>
    simp only [gopt] at e
    simp only [aopt]
    split at e
    · rename_i hv; rw [hg _ _ hv]; exact e
    · cases e
end
end Go.Ab

/- What must hold, step by step. -/
set_option linter.unusedVariables false
set_option linter.unusedSimpArgs false
namespace Go.Ab

/-- What is left to do. -/
inductive Fk where
  | code (c : Code)
  | blk (id : Nat)
  | lp (x : Code)
inductive Ph where
  | code (c : Code) (K : List Fk)
  | unw (e : AExit) (K : List Fk)
  | ops (ops : Array Oper) (l : List Oper) (K : List Fk)
  | op (ops : Array Oper) (o : Oper) (p : Ph)
  | opsP (ops : Array Oper) (l : List Oper) (i : Nat) (ps : List (Nat × Nat)) (M : List (Nat × TypeId × Value × AH)) (N : List (Nat × AH × AH)) (K : List Fk)
  | opP (ops : Array Oper) (o : Oper) (l : List Oper) (i : Nat) (ps : List (Nat × Nat)) (M : List (Nat × TypeId × Value × AH)) (N : List (Nat × AH × AH)) (K : List Fk)
  | aftP (ops : Array Oper) (l : List Oper) (i : Nat) (ps : List (Nat × Nat)) (M : List (Nat × TypeId × Value × AH)) (N : List (Nat × AH × AH)) (K : List Fk) (H0 : AH)

abbrev RR (T : Tab) (n : Nat) (c : Code) (a : Act) (H : AH) : Option (AExit × Act × AH) := acode T (arun T n) (adraw T (arun T n)) n c a H
def fin (T : Tab) (n : Nat) : List Fk → AExit → Act → AH → Option (AExit × Act × AH)
  | [], e, a, H => some (e, a, H)
  | .code y :: K, .normal, a, H => match RR T n y a H with
    | some (e1, a1, H1) => fin T n K e1 a1 H1
    | none => none
  | .code _ :: K, e, a, H => fin T n K e a H
  | .blk id :: K, .exit id', a, H => if id' = id then fin T n K .normal a H else fin T n K (.exit id') a H
  | .blk _ :: K, e, a, H => fin T n K e a H
  | .lp x :: K, .normal, a, H => match RR T n (.loop x) a H with
    | some (e1, a1, H1) => fin T n K e1 a1 H1
    | none => none
  | .lp _ :: K, e, a, H => fin T n K e a H
def aresR (T : Tab) (rs : List ResultVar) (a : Act) (H : AH) : Option Value :=
  match aresL T a H rs with
  | some [v] => some v
  | some vs => if vs.all isA then some (.tuple vs.toArray) else none
  | none => none
def close (T : Tab) (rs : List ResultVar) : Option (AExit × Act × AH) → Option (Value × AH)
  | some (.normal, a, H) => (match aresR T rs a H with | some r => some (r, H) | none => none)
  | some (.ret, a, H) => (match aresR T rs a H with | some r => some (r, H) | none => none)
  | _ => none
def runPh (T : Tab) (n : Nat) : Ph → Act → AH → Option (AExit × Act × AH)
  | .code c K, a, H => match RR T n c a H with
    | some (e, a1, H1) => fin T n K e a1 H1
    | none => none
  | .unw e K, a, H => fin T n K e a H
  | .ops ops l K, a, H => match areg T (arun T n) ops l a H with
    | some (a1, H1) => fin T n K .normal a1 H1
    | none => none
  | _, _, _ => none

/-- Asked of the code by its text alone. -/
def okO (nt : Nat) (l : List Oper) : Bool := l.all fun o => match o.dst with
  | none => true
  | some d => decide (d < nt)
def pairsAt : List (Nat × List (Nat × Nat)) → Nat → List (Nat × Nat)
  | [], _ => []
  | (j, ps) :: pt, id => if j = id then ps else pairsAt pt id
def isCls (ops : Array Oper) (i : Nat) (c : Cls) : Bool := match ops[i]? with
  | some o => decide (cls o.op = c)
  | none => false
def okD (ops : Array Oper) (ps : List (Nat × Nat)) : Bool := statOk ops && (drawPairs ops == ps) && ps.all fun p => isCls ops p.1 .load && isCls ops p.2 .eff
def okC (nt : Nat) (pt : List (Nat × List (Nat × Nat))) : Code → Bool
  | .region id ops d => okO nt ops.toList && (!d || okD ops (pairsAt pt id))
  | .seq x y => okC nt pt x && okC nt pt y
  | .cond _ x y => okC nt pt x && okC nt pt y
  | .block _ x => okC nt pt x
  | .loop x => okC nt pt x
  | _ => true
def okK (nt : Nat) (pt : List (Nat × List (Nat × Nat))) : List Fk → Bool
  | [] => true
  | .code c :: K => okC nt pt c && okK nt pt K
  | .blk _ :: K => okK nt pt K
  | .lp x :: K => okC nt pt x && okK nt pt K
def okP (nt : Nat) (pt : List (Nat × List (Nat × Nat))) : Ph → Prop
  | .code c K => okC nt pt c = true ∧ okK nt pt K = true
  | .unw _ K => okK nt pt K = true
  | .ops _ l K => okO nt l = true ∧ okK nt pt K = true
  | .op _ o p => okO nt [o] = true ∧ okP nt pt p
  | .opsP ops l i ps _ _ K => okO nt l = true ∧ okK nt pt K = true ∧ ops.toList.drop i = l ∧ okD ops ps = true
  | .opP ops o l i ps _ _ K => okO nt [o] = true ∧ okO nt l = true ∧ okK nt pt K = true ∧ ops.toList.drop i = o :: l ∧ okD ops ps = true
  | .aftP ops l i ps _ _ K _ => okO nt l = true ∧ okK nt pt K = true ∧ ops.toList.drop (i + 1) = l ∧ okD ops ps = true

/-- A reading answers the same over two heaps. -/
def Same (T : Tab) (t : TypeId) (p : Value) (H H' : AH) : Prop := sameV (aload T t p H'.get) (aload T t p H.get) = true
def allM (T : Tab) : List (Nat × TypeId × Value × AH) → Nat → AH → Prop
  | [], _, _ => True
  | (e, t, p, H) :: M, i, H' => if e = i then Same T t p H H' ∧ allM T M i H' else allM T M i H'
def allN (T : Tab) : List (Nat × AH × AH) → Nat → TypeId → Value → AH → Prop
  | [], _, _, _, _ => True
  | (j, H0, H1) :: N, i, t, p, H => if j = i then (Same T t p H H0 ∧ Same T t p H H1) ∧ allN T N i t p H else allN T N i t p H
def addM : List (Nat × Nat) → Nat → TypeId → Value → AH → List (Nat × TypeId × Value × AH) → List (Nat × TypeId × Value × AH)
  | [], _, _, _, _, M => M
  | (j, e) :: ps, i, t, p, H, M => if j = i then (e, t, p, H) :: addM ps i t p H M else addM ps i t p H M
def addN : List (Nat × Nat) → Nat → AH → AH → List (Nat × AH × AH) → List (Nat × AH × AH)
  | [], _, _, _, N => N
  | (j, e) :: ps, i, H0, H1, N => if e = i then (j, H0, H1) :: addN ps i H0 H1 N else addN ps i H0 H1 N
/-- The check of one pair, on the trace of a region's rest. -/
def chkL (T : Tab) (ops : Array Oper) (l : List Oper) (sts : List St) (p : Nat × Nat) : Bool :=
  match sts[p.1]?, sts[p.2]?, sts[p.2 + 1]?, l[p.1]?, l[p.2]? with
  | some si, some se, some se1, some oi, some oe =>
    if Region.wanted oi (yielded ops si.a.tmps) && Region.wanted oe (yielded ops se.a.tmps) then
      sameV (aread T si.a oi.op se.H.get) (aread T si.a oi.op si.H.get) && sameV (aread T si.a oi.op se1.H.get) (aread T si.a oi.op si.H.get)
    else true
  | _, _, _, _, _ => false
def chkM (T : Tab) (ops : Array Oper) (l : List Oper) (sts : List St) (i : Nat) (m : Nat × TypeId × Value × AH) : Prop :=
  i ≤ m.1 → m.1 < i + l.length → ∀ se se1 oe, sts[m.1 - i]? = some se → sts[m.1 - i + 1]? = some se1 → l[m.1 - i]? = some oe → cls oe.op = .eff → Region.wanted oe (yielded ops se.a.tmps) = true → Same T m.2.1 m.2.2.1 m.2.2.2 se.H ∧ Same T m.2.1 m.2.2.1 m.2.2.2 se1.H
def chkN (T : Tab) (ops : Array Oper) (l : List Oper) (sts : List St) (i : Nat) (m : Nat × AH × AH) : Prop :=
  i ≤ m.1 → m.1 < i + l.length → ∀ si oi, sts[m.1 - i]? = some si → l[m.1 - i]? = some oi → cls oi.op = .load → Region.wanted oi (yielded ops si.a.tmps) = true → sameV (aread T si.a oi.op m.2.1.get) (aread T si.a oi.op si.H.get) = true ∧ sameV (aread T si.a oi.op m.2.2.get) (aread T si.a oi.op si.H.get) = true

def GoodP (T : Tab) (rs : List ResultVar) (Q : Value → AH → Prop) (ops : Array Oper) (l : List Oper) (i : Nat) (ps : List (Nat × Nat)) (M : List (Nat × TypeId × Value × AH)) (N : List (Nat × AH × AH)) (K : List Fk) (a : Act) (H : AH) : Prop :=
  ∃ n sts s x r H', atrace T (arun T n) ops l ⟨a, H⟩ = some sts ∧ (∀ p ∈ ps, i ≤ p.1 → i ≤ p.2 → p.1 < i + l.length → p.2 < i + l.length → chkL T ops l sts (p.1 - i, p.2 - i) = true) ∧
    (∀ m ∈ M, chkM T ops l sts i m) ∧ (∀ m ∈ N, chkN T ops l sts i m) ∧ sts.getLast? = some s ∧ fin T n K .normal s.a s.H = some x ∧ close T rs (some x) = some (r, H') ∧ Q r H'
def GoodR (T : Tab) (rs : List ResultVar) (Q : Value → AH → Prop) (p : Ph) (a : Act) (H : AH) : Prop :=
  ∃ n x r H', runPh T n p a H = some x ∧ close T rs (some x) = some (r, H') ∧ Q r H'
def Good (T : Tab) (rs : List ResultVar) (Q : Value → AH → Prop) : Ph → Act → AH → Prop
  | .op _ o p, a, H => ∃ n v H1, astep T (arun T n) a o H = some (v, H1) ∧ Good T rs Q p (a.put o.dst v) H1
  | .opsP ops l i ps M N K, a, H => GoodP T rs Q ops l i ps M N K a H
  | .opP ops o l i ps M N K, a, H => Region.wanted o (yielded ops a.tmps) = true → GoodP T rs Q ops (o :: l) i ps M N K a H
  | .aftP ops l i ps M N K H0, a, H => allM T M i H ∧ GoodP T rs Q ops l (i + 1) ps M (addN ps i H0 H N) K a H
  | p, a, H => GoodR T rs Q p a H
/-- Whatever fits what is known runs to a result that is asked for. -/
def Sat (T : Tab) (lo : List Nat) (nt : Nat) (pt : List (Nat × List (Nat × Nat))) (rs : List ResultVar) (Q : Value → AH → Prop) (p : Ph) (H : AH) (V : List Value) (A : List (Nat × Value)) : Prop :=
  okP nt pt p → ∀ a, Knows lo nt V A a → Good T rs Q p a H
/-- A call runs to a result that is asked for. -/
def Runs (T : Tab) (f : FuncId) (vs : List Value) (H : AH) (Q : Value → AH → Prop) : Prop := ∃ n r H', arun T n f vs H = some (r, H') ∧ Q r H'
theorem Runs.mono {T : Tab} {f : FuncId} {vs : List Value} {H : AH} {Q R : Value → AH → Prop} (h : Runs T f vs H Q) (k : ∀ r H', Q r H' → R r H') : Runs T f vs H R :=
  let ⟨n, r, H', e, q⟩ := h
  ⟨n, r, H', e, k _ _ q⟩

def dstAt : List Oper → Nat → Option Nat
  | [], _ => none
  | o :: _, 0 => o.dst
  | _ :: l, n + 1 => dstAt l n
theorem dstAt_eq : ∀ (l : List Oper) (j : Nat), dstAt l j = (l[j]?).bind (·.dst)
  | [], j => by simp [dstAt]
  | o :: l, 0 => by simp [dstAt]
  | o :: l, j + 1 => by simp [dstAt, dstAt_eq l j]
abbrev Kont := List Value → List (Nat × Value) → Prop
def putW (lo : List Nat) (dst : Option Nat) (v : Value) (F : Kont) (V : List Value) (A : List (Nat × Value)) : Prop :=
  match dst with
  | none => F V A
  | some d => if hasK lo d then F (setK lo V d v) A else F V ((d, v) :: A)
def optW (lo : List Nat) (dst : Option Nat) (o : Option Value) (F : Kont) (V : List Value) (A : List (Nat × Value)) : Prop :=
  match o with
  | some v => putW lo dst v F V A
  | none => False
def optHW (lo : List Nat) (dst : Option Nat) (o : Option (Value × AH)) (F : AH → Kont) (V : List Value) (A : List (Nat × Value)) : Prop :=
  match o with
  | some (v, H) => putW lo dst v (F H) V A
  | none => False
def condW (o : Option Value) (F G : List (Nat × Value) → Prop) : Prop :=
  match o with
  | some (.bool b) => (b = true → F []) ∧ (b = false → G [])
  | _ => False
def repA : List (Nat × Value) → Nat → Value → List (Nat × Value)
  | [], d, v => [(d, v)]
  | (t, w) :: A, d, v => if t = d then (d, v) :: A else (t, w) :: repA A d v
/-- What is known anew of a temporary. -/
def layW (lo : List Nat) (d : Nat) (v : Value) (F : Kont) (V : List Value) (A : List (Nat × Value)) : Prop :=
  if hasK lo d then F (setK lo V d v) A else F V (repA A d v)
/-- Which of two: what is known of a guard is laid down. -/
def guardW (lo : List Nat) (d : Nat) (o : Option Value) (b : Bool) (F G : Kont) (V : List Value) (A : List (Nat × Value)) : Prop :=
  match o with
  | some (.bool c) => (c = b → layW lo d (.bool b) F V A) ∧ (c = !b → layW lo d (.bool (!b)) G V A)
  | some _ => G V A
  | none => False
/-- A guarded operation: its guard's place. -/
def guardAt (lo : List Nat) (d : Option Nat) (b : Bool) (F G : Kont) (V : List Value) (A : List (Nat × Value)) : Prop :=
  match d with
  | some d => guardW lo d (look lo V A d) b F G V A
  | none => False
def ldW (T : Tab) (o : Option Value) (t : TypeId) (i : Nat) (N : List (Nat × AH × AH)) (H : AH) (F : Value → Kont) (V : List Value) (A : List (Nat × Value)) : Prop :=
  match o with
  | some p => allN T N i t p H ∧ F p V A
  | none => False
def callW (T : Tab) (lo : List Nat) (dst : Option Nat) (o : Option (FuncId × List Value)) (H : AH) (F : AH → Kont) (V : List Value) (A : List (Nat × Value)) : Prop :=
  match o with
  | some (f, vs) => Runs T f vs H fun r H1 => putW lo dst r (F H1) V A
  | none => False
def resL (T : Tab) (lo : List Nat) (H : AH) (V : List Value) (A : List (Nat × Value)) : List ResultVar → Option (List Value)
  | [] => some []
  | .tmp t :: rs => match look lo V A t with
    | none => none
    | some v => match resL T lo H V A rs with
      | none => none
      | some vs => some (v :: vs)
  | .cell p t :: rs => match load2 T t (look lo V A p) H.get with
    | none => none
    | some v => match resL T lo H V A rs with
      | none => none
      | some vs => some (v :: vs)
def resQ (Q : Value → AH → Prop) (o : Option (List Value)) (H : AH) : Prop :=
  match o with
  | some [v] => Q v H
  | some vs => vs.all isA = true ∧ Q (.tuple vs.toArray) H
  | none => False

def W (T : Tab) (lo : List Nat) (nt : Nat) (pt : List (Nat × List (Nat × Nat))) (rs : List ResultVar) (Q : Value → AH → Prop) : Nat → Ph → AH → Kont
  | 0, _, _, _, _ => False
  | n + 1, .code c K, H, V, A => (match c with
    | .skip => W T lo nt pt rs Q n (.unw .normal K) H V A
    | .region _ ops false => W T lo nt pt rs Q n (.ops ops ops.toList K) H V A
    | .region id ops true => match pairsAt pt id with
      | [] => W T lo nt pt rs Q n (.ops ops ops.toList K) H V A
      | p :: ps => W T lo nt pt rs Q n (.opsP ops ops.toList 0 (p :: ps) [] [] K) H V A
    | .seq x y => W T lo nt pt rs Q n (.code x (.code y :: K)) H V A
    | .cond c x y => condW (ev T lo V A c) (W T lo nt pt rs Q n (.code x K) H V) (W T lo nt pt rs Q n (.code y K) H V)
    | .block id x => W T lo nt pt rs Q n (.code x (.blk id :: K)) H V A
    | .loop x => Sat T lo nt pt rs Q (.code (.loop x) K) H V []
    | .exit id => W T lo nt pt rs Q n (.unw (.exit id) K) H V A
    | .ret => W T lo nt pt rs Q n (.unw .ret K) H V A
    | .label _ => W T lo nt pt rs Q n (.unw .normal K) H V A
    | _ => False)
  | n + 1, .unw e K, H, V, A => (match K, e with
    | [], .exit _ => False
    | [], _ => resQ Q (resL T lo H V A rs) H
    | .code y :: K, .normal => W T lo nt pt rs Q n (.code y K) H V A
    | .code _ :: K, e => W T lo nt pt rs Q n (.unw e K) H V A
    | .blk id :: K, .exit id' => if id' = id then W T lo nt pt rs Q n (.unw .normal K) H V A else W T lo nt pt rs Q n (.unw (.exit id') K) H V A
    | .blk _ :: K, e => W T lo nt pt rs Q n (.unw e K) H V A
    | .lp x :: K, .normal => Sat T lo nt pt rs Q (.code (.loop x) K) H V []
    | .lp _ :: K, e => W T lo nt pt rs Q n (.unw e K) H V A)
  | n + 1, .ops ops l K, H, V, A => (match l with
    | [] => W T lo nt pt rs Q n (.unw .normal K) H V A
    | o :: l => match o.guard with
      | none => W T lo nt pt rs Q n (.op ops o (.ops ops l K)) H V A
      | some (j, b) => guardAt lo (dstAt ops.toList j) b (W T lo nt pt rs Q n (.op ops o (.ops ops l K)) H) (putW lo o.dst undef (W T lo nt pt rs Q n (.ops ops l K) H)) V A)
  | n + 1, .opsP ops l i ps M N K, H, V, A => (match l with
    | [] => W T lo nt pt rs Q n (.unw .normal K) H V A
    | o :: l => match o.guard with
      | none => W T lo nt pt rs Q n (.opP ops o l i ps M N K) H V A
      | some (j, b) => guardAt lo (dstAt ops.toList j) b (W T lo nt pt rs Q n (.opP ops o l i ps M N K) H) (putW lo o.dst undef (W T lo nt pt rs Q n (.opsP ops l (i + 1) ps M N K) H)) V A)
  | n + 1, .opP ops o l i ps M N K, H, V, A => (match o.op with
    | .load t x => ldW T (ev T lo V A x) t i N H (fun p => W T lo nt pt rs Q n (.op ops o (.opsP ops l (i + 1) ps (addM ps i t p H M) N K)) H) V A
    | op => match cls op with
      | .eff => allM T M i H ∧ W T lo nt pt rs Q n (.op ops o (.aftP ops l i ps M N K H)) H V A
      | _ => W T lo nt pt rs Q n (.op ops o (.opsP ops l (i + 1) ps M N K)) H V A)
  | n + 1, .aftP ops l i ps M N K H0, H, V, A => allM T M i H ∧ W T lo nt pt rs Q n (.opsP ops l (i + 1) ps M (addN ps i H0 H N) K) H V A
  | n + 1, .op ops o p, H, V, A => (
    let g := ev T lo V A
    let F := W T lo nt pt rs Q n p
    match o.op with
    | .move x => optW lo o.dst (g x) (F H) V A
    | .assign x => optW lo o.dst (g x) (F H) V A
    | .pick c x y => optW lo o.dst (pick2 (g c) (g x) (g y)) (F H) V A
    | .build t ps => optW lo o.dst (build2 T t (gparts g ps.toList)) (F H) V A
    | .nilCheck x => optW lo o.dst (nil2 (g x)) (F H) V A
    | .binOp op t x y _ => optW lo o.dst (bin2 T op t (g x) (g y)) (F H) V A
    | .unOp op _ x => optW lo o.dst (un2 op (g x)) (F H) V A
    | .convert s d x => optW lo o.dst (conv2 T s d (g x)) (F H) V A
    | .makeFunc (.func f) first caps => optW lo o.dst (func2 f first (gvals g caps.toList)) (F H) V A
    | .slice t x b e none => optW lo o.dst (slice2 T t (g x) (gopt g b) (gopt g e)) (F H) V A
    | .fieldAddr t x f => optW lo o.dst (faddr2 T t (g x) f) (F H) V A
    | .field t x f => optW lo o.dst (field2 T t (g x) f) (F H) V A
    | .indexAddr t x i => optW lo o.dst (iaddr2 T t (g x) (g i)) (F H) V A
    | .index t x i => optW lo o.dst (index2 T t (g x) (g i)) (F H) V A
    | .extract x i => optW lo o.dst (extract2 (g x) i) (F H) V A
    | .load t x => optW lo o.dst (load2 T t (g x) H.get) (F H) V A
    | .alloc t => optHW lo o.dst (alloc2 T t H) F V A
    | .box _ x => optHW lo o.dst (box2 (g x) H) F V A
    | .buildSlice t k ps => optHW lo o.dst (bslice2 T t k (gparts g ps.toList) H) F V A
    | .makeSlice t x y => optHW lo o.dst (mslice2 T t (g x) (g y) H) F V A
    | .store t x y => optHW lo o.dst (store2 T t (g x) (g y) H) F V A
    | .call { callee := .builtin .len, args, argTypes } => optW lo o.dst (pureB2 T .len argTypes.toList (gvals g args.toList)) (F H) V A
    | .call { callee := .builtin .max, args, argTypes } => optW lo o.dst (pureB2 T .max argTypes.toList (gvals g args.toList)) (F H) V A
    | .call { callee := .builtin .min, args, argTypes } => optW lo o.dst (pureB2 T .min argTypes.toList (gvals g args.toList)) (F H) V A
    | .call { callee := .builtin .append, args, argTypes } => optHW lo o.dst (effB2 T .append argTypes.toList (gvals g args.toList) H) F V A
    | .call { callee := .builtin .copy, args, argTypes } => optHW lo o.dst (effB2 T .copy argTypes.toList (gvals g args.toList) H) F V A
    | .call { callee := .builtin .clear, args, argTypes } => optHW lo o.dst (effB2 T .clear argTypes.toList (gvals g args.toList) H) F V A
    | .call { callee := .value f, args, .. } => callW T lo o.dst (callee2 (g f) (gvals g args.toList)) H F V A
    | _ => False)
end Go.Ab

/- What must hold is enough. -/
set_option linter.unusedVariables false
set_option linter.unusedSimpArgs false
namespace Go.Ab

theorem RR_up {T : Tab} {n m k : Nat} {c : Code} {a : Act} {H : AH} {r : AExit × Act × AH} (h : RR T n c a H = some r) (hm : n ≤ m) (hk : n ≤ k) : acode T (arun T m) (adraw T (arun T m)) k c a H = some r :=
  acode_mono (arun_mono n m hm) (adraw_mono (arun_mono n m hm)) n k c a H r hk h
theorem fin_mono {T : Tab} {n m : Nat} (hm : n ≤ m) : ∀ {K : List Fk} {e : AExit} {a : Act} {H : AH} {x : AExit × Act × AH}, fin T n K e a H = some x → fin T m K e a H = some x
  | [], e, a, H, x, h => by cases e <;> exact h
  | .code y :: K, e, a, H, x, h => by
    cases e with
    | normal =>
      simp only [fin] at h ⊢
      split at h
      · rename_i hy; rw [show RR T m _ a H = _ from RR_up hy hm hm]; exact fin_mono hm h
      · cases h
    | exit id => simp only [fin] at h ⊢; exact fin_mono hm h
    | ret => simp only [fin] at h ⊢; exact fin_mono hm h
  | .blk id :: K, e, a, H, x, h => by
    cases e with
    | normal => simp only [fin] at h ⊢; exact fin_mono hm h
    | exit id' =>
      simp only [fin] at h ⊢
      split at h
      · rename_i hi; rw [if_pos hi]; exact fin_mono hm h
      · rename_i hi; rw [if_neg hi]; exact fin_mono hm h
    | ret => simp only [fin] at h ⊢; exact fin_mono hm h
  | .lp y :: K, e, a, H, x, h => by
    cases e with
    | normal =>
      simp only [fin] at h ⊢
      split at h
      · rename_i hy; rw [show RR T m _ a H = _ from RR_up hy hm hm]; exact fin_mono hm h
      · cases h
    | exit id => simp only [fin] at h ⊢; exact fin_mono hm h
    | ret => simp only [fin] at h ⊢; exact fin_mono hm h
theorem runPh_mono {T : Tab} {n m : Nat} (hm : n ≤ m) {p : Ph} {a : Act} {H : AH} {x : AExit × Act × AH} (h : runPh T n p a H = some x) : runPh T m p a H = some x := by
  cases p with
  | code c K =>
    simp only [runPh] at h ⊢
    split at h
    · rename_i hy; rw [show RR T m _ a H = _ from RR_up hy hm hm]; exact fin_mono hm h
    · cases h
  | unw e K => exact fin_mono hm h
  | ops ops l K =>
    simp only [runPh] at h ⊢
    split at h
    · rename_i hy; rw [areg_mono (arun_mono n m hm) hy]; exact fin_mono hm h
    · cases h
  | _ => simp [runPh] at h

section
variable {T : Tab} {rs : List ResultVar} {Q : Value → AH → Prop}
/-- One phase does what another does, with some more rounds. -/
theorem GoodR.by {p q : Ph} {a b : Act} {H G : AH} (h : GoodR T rs Q p a H) (k : ∀ n x, runPh T n p a H = some x → ∃ m, runPh T m q b G = some x) : GoodR T rs Q q b G := by
  obtain ⟨n, x, r, H', e, c, hq⟩ := h
  obtain ⟨m, e'⟩ := k n x e
  exact ⟨m, x, r, H', e', c, hq⟩

theorem Good.skip {K : List Fk} {a : Act} {H : AH} (h : Good T rs Q (.unw .normal K) a H) : Good T rs Q (.code .skip K) a H :=
  GoodR.by h fun n x e => ⟨n + 1, by simp only [runPh, RR, acode]; exact fin_mono (Nat.le_succ n) e⟩
theorem Good.label {K : List Fk} {l : Nat} {a : Act} {H : AH} (h : Good T rs Q (.unw .normal K) a H) : Good T rs Q (.code (.label l) K) a H :=
  GoodR.by h fun n x e => ⟨n + 1, by simp only [runPh, RR, acode]; exact fin_mono (Nat.le_succ n) e⟩
theorem Good.exit {K : List Fk} {id : Nat} {a : Act} {H : AH} (h : Good T rs Q (.unw (.exit id) K) a H) : Good T rs Q (.code (.exit id) K) a H :=
  GoodR.by h fun n x e => ⟨n + 1, by simp only [runPh, RR, acode]; exact fin_mono (Nat.le_succ n) e⟩
theorem Good.ret {K : List Fk} {a : Act} {H : AH} (h : Good T rs Q (.unw .ret K) a H) : Good T rs Q (.code .ret K) a H :=
  GoodR.by h fun n x e => ⟨n + 1, by simp only [runPh, RR, acode]; exact fin_mono (Nat.le_succ n) e⟩
theorem Good.seq {x y : Code} {K : List Fk} {a : Act} {H : AH} (h : Good T rs Q (.code x (.code y :: K)) a H) : Good T rs Q (.code (.seq x y) K) a H :=
  GoodR.by h fun n z e => by
    simp only [runPh] at e
    split at e
    · rename_i e1 a1 H1 hx
      have hx' := RR_up hx (Nat.le_succ n) (Nat.le_refl n)
      refine ⟨n + 1, ?_⟩
      simp only [runPh, RR, acode, hx']
      cases e1 with
      | normal =>
        simp only [fin] at e
        split at e
        · rename_i hy
          have hy' := RR_up hy (Nat.le_succ n) (Nat.le_refl n)
          simp only [hy']
          exact fin_mono (Nat.le_succ n) e
        · cases e
      | exit id => simp only [fin] at e ⊢; exact fin_mono (Nat.le_succ n) e
      | ret => simp only [fin] at e ⊢; exact fin_mono (Nat.le_succ n) e
    · cases e
theorem Good.block {x : Code} {id : Nat} {K : List Fk} {a : Act} {H : AH} (h : Good T rs Q (.code x (.blk id :: K)) a H) : Good T rs Q (.code (.block id x) K) a H :=
  GoodR.by h fun n z e => by
    simp only [runPh] at e
    split at e
    · rename_i e1 a1 H1 hx
      have hx' := RR_up hx (Nat.le_succ n) (Nat.le_refl n)
      refine ⟨n + 1, ?_⟩
      simp only [runPh, RR, acode, hx']
      cases e1 with
      | normal => simp only [fin] at e ⊢; exact fin_mono (Nat.le_succ n) e
      | exit id' =>
        simp only [fin] at e
        split at e
        · rename_i hi; simp only [hi, if_true]; exact fin_mono (Nat.le_succ n) e
        · rename_i hi; simp only [hi, if_false]; exact fin_mono (Nat.le_succ n) e
      | ret => simp only [fin] at e ⊢; exact fin_mono (Nat.le_succ n) e
    · cases e
theorem Good.loop {x : Code} {K : List Fk} {a : Act} {H : AH} (h : Good T rs Q (.code x (.lp x :: K)) a H) : Good T rs Q (.code (.loop x) K) a H :=
  GoodR.by h fun n z e => by
    simp only [runPh] at e
    split at e
    · rename_i e1 a1 H1 hx
      have hx' := RR_up hx (Nat.le_succ n) (Nat.le_refl n)
      refine ⟨n + 1, ?_⟩
      simp only [runPh, RR, acode, hx']
      cases e1 with
      | normal =>
        simp only [fin] at e
        split at e
        · rename_i hy
          have hy' := RR_up hy (Nat.le_succ n) (Nat.le_refl n)
          simp only [hy']
          exact fin_mono (Nat.le_succ n) e
        · cases e
      | exit id => simp only [fin] at e ⊢; exact fin_mono (Nat.le_succ n) e
      | ret => simp only [fin] at e ⊢; exact fin_mono (Nat.le_succ n) e
    · cases e
theorem Good.cond {c : Operand} {x y : Code} {b : Bool} {K : List Fk} {a : Act} {H : AH} (hc : aev T a c = some (.bool b)) (h : Good T rs Q (.code (if b then x else y) K) a H) : Good T rs Q (.code (.cond c x y) K) a H :=
  GoodR.by h fun n z e => by
    simp only [runPh] at e
    split at e
    · rename_i e1 a1 H1 hx
      have hx' := RR_up hx (Nat.le_succ n) (Nat.le_refl n)
      refine ⟨n + 1, ?_⟩
      cases b
      · simp only [runPh, RR, acode, hc]
        simp only [Bool.false_eq_true, if_false] at hx'
        simp only [hx']
        exact fin_mono (Nat.le_succ n) e
      · simp only [runPh, RR, acode, hc]
        simp only [if_true] at hx'
        simp only [hx']
        exact fin_mono (Nat.le_succ n) e
    · cases e
theorem Good.region {id : Nat} {ops : Array Oper} {d : Bool} {K : List Fk} {a : Act} {H : AH} (hd : d = true → statOk ops = true ∧ drawPairs ops = []) (h : Good T rs Q (.ops ops ops.toList K) a H) : Good T rs Q (.code (.region id ops d) K) a H :=
  GoodR.by h fun n z e => by
    simp only [runPh] at e
    split at e
    · rename_i a1 H1 hx
      have hx' := areg_mono (arun_mono n (n + 1) (Nat.le_succ n)) hx
      refine ⟨n + 1, ?_⟩
      cases d
      · simp only [runPh, RR, acode, hx']
        exact fin_mono (Nat.le_succ n) e
      · obtain ⟨h1, h2⟩ := hd rfl
        simp only [runPh, RR, acode, adraw, h1, h2, if_true, hx']
        exact fin_mono (Nat.le_succ n) e
    · cases e
theorem chkL_eq (T : Tab) (ops : Array Oper) (sts : List St) (p : Nat × Nat) : chkL T ops ops.toList sts p = chk T ops sts p := by
  unfold chkL chk
  simp only [Array.getElem?_toList]
  rfl
theorem drawPairs_lt {ops : Array Oper} {p : Nat × Nat} (h : p ∈ drawPairs ops) : p.1 < ops.toList.length ∧ p.2 < ops.toList.length := by
  unfold drawPairs at h
  rw [List.mem_flatMap] at h
  obtain ⟨i, hi, h⟩ := h
  rw [List.mem_filterMap] at h
  obtain ⟨e, he, h⟩ := h
  rw [List.mem_range] at hi he
  split at h
  · split at h
    · cases h; exact ⟨by simpa using hi, by simpa using he⟩
    · cases h
  · cases h
theorem Good.regionP {id : Nat} {ops : Array Oper} {K : List Fk} {a : Act} {H : AH} {ps : List (Nat × Nat)} (hs : statOk ops = true) (hp : drawPairs ops = ps) (hne : ps ≠ []) (h : Good T rs Q (.opsP ops ops.toList 0 ps [] [] K) a H) : Good T rs Q (.code (.region id ops true) K) a H := by
  obtain ⟨n, sts, s, x, r, H', ht, h1, _, _, hl, hf, hc, hq⟩ := h
  refine ⟨n + 1, x, r, H', ?_, hc, hq⟩
  have ht' := atrace_mono (arun_mono n (n + 1) (Nat.le_succ n)) ht
  have hall : ps.all (chk T ops sts) = true := by
    rw [List.all_eq_true]
    intro p hpm
    obtain ⟨l1, l2⟩ := drawPairs_lt (hp ▸ hpm)
    have := h1 p hpm (Nat.zero_le _) (Nat.zero_le _) (by omega) (by omega)
    rw [← chkL_eq]
    simpa using this
  have hdr : adraw T (arun T (n + 1)) ops a H = some (s.a, s.H) := by
    unfold adraw
    rw [if_pos hs]
    split
    · rename_i he; rw [hp] at he; exact absurd he hne
    · rename_i q qs he
      rw [ht']
      simp only
      rw [← he, hp, hall, if_pos rfl, hl]
  simp only [runPh, RR, acode, hdr]
  exact fin_mono (Nat.le_succ n) hf
theorem Good.unwCode {y : Code} {K : List Fk} {a : Act} {H : AH} (h : Good T rs Q (.code y K) a H) : Good T rs Q (.unw .normal (.code y :: K)) a H :=
  GoodR.by h fun n z e => ⟨n, e⟩
theorem Good.unwLoop {y : Code} {K : List Fk} {a : Act} {H : AH} (h : Good T rs Q (.code (.loop y) K) a H) : Good T rs Q (.unw .normal (.lp y :: K)) a H :=
  GoodR.by h fun n z e => ⟨n, e⟩
theorem Good.opsNil {ops : Array Oper} {K : List Fk} {a : Act} {H : AH} (h : Good T rs Q (.unw .normal K) a H) : Good T rs Q (.ops ops [] K) a H :=
  GoodR.by h fun n z e => ⟨n, e⟩
theorem Good.opsOp {ops : Array Oper} {o : Oper} {l : List Oper} {K : List Fk} {a : Act} {H : AH} (hw : Region.wanted o (yielded ops a.tmps) = true) (h : Good T rs Q (.op ops o (.ops ops l K)) a H) : Good T rs Q (.ops ops (o :: l) K) a H := by
  obtain ⟨n, v, H1, hs, m, x, r, H', e, hc, hq⟩ := h
  refine ⟨max n m, x, r, H', ?_, hc, hq⟩
  have e' := runPh_mono (Nat.le_max_right n m) e
  simp only [runPh] at e'
  simp only [runPh, areg, hw, if_true, astep_mono (arun_mono n (max n m) (Nat.le_max_left _ _)) hs]
  exact e'
theorem Good.opsSkip {ops : Array Oper} {o : Oper} {l : List Oper} {K : List Fk} {a : Act} {H : AH} (hw : Region.wanted o (yielded ops a.tmps) = false) (h : Good T rs Q (.ops ops l K) (a.put o.dst undef) H) : Good T rs Q (.ops ops (o :: l) K) a H :=
  GoodR.by h fun n z e => ⟨n, by
    simp only [runPh] at e
    simp only [runPh, areg, hw, Bool.false_eq_true, if_false]
    exact e⟩
theorem Good.step {ops : Array Oper} {o : Oper} {p : Ph} {a : Act} {H H1 : AH} {v : Value} (hs : acallee T a o.op = none) (ho : aop T a o.op H = some (v, H1)) (h : Good T rs Q p (a.put o.dst v) H1) : Good T rs Q (.op ops o p) a H :=
  ⟨0, v, H1, by simp only [astep, hs, ho], h⟩
theorem Good.call {ops : Array Oper} {o : Oper} {p : Ph} {a : Act} {H : AH} {f : FuncId} {vs : List Value} (hs : acallee T a o.op = some (f, vs)) (h : Runs T f vs H fun v H1 => Good T rs Q p (a.put o.dst v) H1) : Good T rs Q (.op ops o p) a H := by
  obtain ⟨n, v, H1, e, h⟩ := h
  exact ⟨n, v, H1, by simp only [astep, hs, e], h⟩

/-! ### Regions with readings that are unordered to writings -/
theorem GoodP.nil {ops : Array Oper} {i : Nat} {ps : List (Nat × Nat)} {M : List (Nat × TypeId × Value × AH)} {N : List (Nat × AH × AH)} {K : List Fk} {a : Act} {H : AH} (h : Good T rs Q (.unw .normal K) a H) : GoodP T rs Q ops [] i ps M N K a H := by
  obtain ⟨n, x, r, H', e, hc, hq⟩ := h
  refine ⟨n, [⟨a, H⟩], ⟨a, H⟩, x, r, H', rfl, fun p _ h1 h2 h3 h4 => ?_, fun m _ h1 h2 => ?_, fun m _ h1 h2 => ?_, rfl, e, hc, hq⟩
  · simp at h3; omega
  · simp at h2; omega
  · simp at h2; omega
theorem mem_addM {ps : List (Nat × Nat)} {i e : Nat} {t : TypeId} {p : Value} {H : AH} {M : List (Nat × TypeId × Value × AH)} : (i, e) ∈ ps → (e, t, p, H) ∈ addM ps i t p H M := by
  induction ps with
  | nil => intro h; cases h
  | cons q ps ih =>
    obtain ⟨j, e'⟩ := q
    intro h
    simp only [addM]
    rcases List.mem_cons.1 h with h | h
    · cases h; rw [if_pos rfl]; exact List.mem_cons_self
    · split
      · exact List.mem_cons_of_mem _ (ih h)
      · exact ih h
theorem sub_addM {ps : List (Nat × Nat)} {i : Nat} {t : TypeId} {p : Value} {H : AH} {M : List (Nat × TypeId × Value × AH)} {m : Nat × TypeId × Value × AH} (h : m ∈ M) : m ∈ addM ps i t p H M := by
  induction ps with
  | nil => exact h
  | cons q ps ih =>
    obtain ⟨j, e'⟩ := q
    simp only [addM]
    split
    · exact List.mem_cons_of_mem _ ih
    · exact ih
theorem mem_addN {ps : List (Nat × Nat)} {i e : Nat} {H0 H1 : AH} {N : List (Nat × AH × AH)} : (i, e) ∈ ps → (i, H0, H1) ∈ addN ps e H0 H1 N := by
  induction ps with
  | nil => intro h; cases h
  | cons q ps ih =>
    obtain ⟨j, e'⟩ := q
    intro h
    simp only [addN]
    rcases List.mem_cons.1 h with h | h
    · cases h; rw [if_pos rfl]; exact List.mem_cons_self
    · split
      · exact List.mem_cons_of_mem _ (ih h)
      · exact ih h
theorem sub_addN {ps : List (Nat × Nat)} {i : Nat} {H0 H1 : AH} {N : List (Nat × AH × AH)} {m : Nat × AH × AH} (h : m ∈ N) : m ∈ addN ps i H0 H1 N := by
  induction ps with
  | nil => exact h
  | cons q ps ih =>
    obtain ⟨j, e'⟩ := q
    simp only [addN]
    split
    · exact List.mem_cons_of_mem _ ih
    · exact ih
theorem allM_mem {M : List (Nat × TypeId × Value × AH)} {i : Nat} {H' : AH} {t : TypeId} {p : Value} {H : AH} : allM T M i H' → (i, t, p, H) ∈ M → Same T t p H H' := by
  induction M with
  | nil => intro _ h; cases h
  | cons q M ih =>
    obtain ⟨e, t', p', H2⟩ := q
    intro h hm
    simp only [allM] at h
    rcases List.mem_cons.1 hm with hm | hm
    · cases hm; rw [if_pos rfl] at h; exact h.1
    · split at h
      · exact ih h.2 hm
      · exact ih h hm
theorem allN_mem {N : List (Nat × AH × AH)} {i : Nat} {t : TypeId} {p : Value} {H H0 H1 : AH} : allN T N i t p H → (i, H0, H1) ∈ N → Same T t p H H0 ∧ Same T t p H H1 := by
  induction N with
  | nil => intro _ h; cases h
  | cons q N ih =>
    obtain ⟨e, G0, G1⟩ := q
    intro h hm
    simp only [allN] at h
    rcases List.mem_cons.1 hm with hm | hm
    · cases hm; rw [if_pos rfl] at h; exact h.1
    · split at h
      · exact ih h.2 hm
      · exact ih h hm

theorem isCls_get {ops : Array Oper} {i k : Nat} {o : Oper} {l : List Oper} {c : Cls} (hl : ops.toList.drop i = l) (ho : l[k]? = some o) (h : isCls ops (i + k) c = true) : cls o.op = c := by
  have : ops[i + k]? = some o := by
    subst hl
    rw [List.getElem?_drop] at ho
    simpa using ho
  simpa [isCls, this] using h
/-- One more operation ahead of a rest that is checked. -/
theorem GoodP.cons {ops : Array Oper} {o : Oper} {l : List Oper} {i : Nat} {ps : List (Nat × Nat)} {M M' : List (Nat × TypeId × Value × AH)} {N N' : List (Nat × AH × AH)} {K : List Fk} {a a1 : Act} {H H1 : AH}
    (hst : (Region.wanted o (yielded ops a.tmps) = true ∧ ∃ n v, astep T (arun T n) a o H = some (v, H1) ∧ a1 = a.put o.dst v) ∨ (Region.wanted o (yielded ops a.tmps) = false ∧ H1 = H ∧ a1 = a.put o.dst undef))
    (h : GoodP T rs Q ops l (i + 1) ps M' N' K a1 H1) (hMs : ∀ m ∈ M, m ∈ M') (hNs : ∀ m ∈ N, m ∈ N')
    (hdr : ops.toList.drop i = o :: l) (hcls : ∀ p ∈ ps, isCls ops p.1 .load = true ∧ isCls ops p.2 .eff = true)
    (hld : Region.wanted o (yielded ops a.tmps) = true → ∀ e, (i, e) ∈ ps → i < e → ∃ t p, (e, t, p, H) ∈ M' ∧ ∀ G : AH, sameV (aread T a o.op G.get) (aread T a o.op H.get) = sameV (aload T t p G.get) (aload T t p H.get))
    (hef : Region.wanted o (yielded ops a.tmps) = true → ∀ j, (j, i) ∈ ps → i < j → (j, H, H1) ∈ N')
    (hM : cls o.op = .eff → Region.wanted o (yielded ops a.tmps) = true → ∀ t p G, (i, t, p, G) ∈ M → Same T t p G H ∧ Same T t p G H1)
    (hN : cls o.op = .load → Region.wanted o (yielded ops a.tmps) = true → ∀ G0 G1 : AH, (i, G0, G1) ∈ N → sameV (aread T a o.op G0.get) (aread T a o.op H.get) = true ∧ sameV (aread T a o.op G1.get) (aread T a o.op H.get) = true) :
    GoodP T rs Q ops (o :: l) i ps M N K a H := by
  obtain ⟨n, sts, s, x, r, H', ht, h1, h2, h3, hl, hf, hc, hq⟩ := h
  have hlen := (atrace_last ht).1
  obtain ⟨s0, hs0, -⟩ : ∃ s0, sts[0]? = some s0 ∧ True := ⟨⟨a1, H1⟩, (atrace_last ht).2.1, trivial⟩
  have hs0' : s0 = ⟨a1, H1⟩ := by have := (atrace_last ht).2.1; rw [this] at hs0; cases hs0; rfl
  subst hs0'
  have htr : ∃ m, n ≤ m ∧ atrace T (arun T m) ops (o :: l) ⟨a, H⟩ = some (⟨a, H⟩ :: sts) := by
    rcases hst with ⟨hw, k, v, hs, rfl⟩ | ⟨hw, rfl, rfl⟩
    · refine ⟨max n k, Nat.le_max_left _ _, ?_⟩
      simp only [atrace, hw, if_true, astep_mono (arun_mono k (max n k) (Nat.le_max_right _ _)) hs, atrace_mono (arun_mono n (max n k) (Nat.le_max_left _ _)) ht]
    · refine ⟨n, Nat.le_refl _, ?_⟩
      simp only [atrace, hw, Bool.false_eq_true, if_false, ht]
  obtain ⟨m, hnm, htr⟩ := htr
  have hne : ∀ p ∈ ps, p.1 ≠ p.2 := by
    intro p hp e
    have := hcls p hp
    rw [e] at this
    obtain ⟨c1, c2⟩ := this
    unfold isCls at c1 c2
    split at c1
    · rename_i ho; rw [ho] at c2; simp at c1 c2; rw [c1] at c2; cases c2
    · cases c1
  have hat : ∀ k oe c, l[k]? = some oe → isCls ops (i + (k + 1)) c = true → cls oe.op = c := fun k oe c ho hc => isCls_get hdr (k := k + 1) (by simpa using ho) hc
  have hgl : ({ a := a, H := H } :: sts).getLast? = some s := by
    cases sts with
    | nil => simp at hl
    | cons y ys => rw [List.getLast?_cons_cons]; exact hl
  refine ⟨m, ⟨a, H⟩ :: sts, s, x, r, H', htr, ?_, ?_, ?_, hgl, fin_mono hnm hf, hc, hq⟩
  · intro p hp p1 p2 p3 p4
    obtain ⟨u, e⟩ := p
    simp only at p1 p2 p3 p4 ⊢
    simp only [List.length_cons] at p3 p4
    have hue := hne _ hp
    simp only at hue
    by_cases hu : u = i
    · subst hu
      have he : u < e := by omega
      obtain ⟨k, hk⟩ : ∃ k, e = u + 1 + k := ⟨e - u - 1, by omega⟩
      have hk1 : e - u = k + 1 := by omega
      have hkl : k < l.length := by omega
      obtain ⟨se, hse⟩ : ∃ se, sts[k]? = some se := ⟨sts[k]'(by omega), List.getElem?_eq_getElem _⟩
      obtain ⟨se1, hse1⟩ : ∃ se, sts[k + 1]? = some se := ⟨sts[k + 1]'(by omega), List.getElem?_eq_getElem _⟩
      obtain ⟨oe, hoe⟩ : ∃ oe, l[k]? = some oe := ⟨l[k], List.getElem?_eq_getElem _⟩
      simp only [chkL, Nat.sub_self, hk1, List.getElem?_cons_zero, List.getElem?_cons_succ, hse, hse1, hoe]
      split
      · rename_i hw
        simp only [Bool.and_eq_true] at hw
        obtain ⟨t, q, hmem, hrd⟩ := hld hw.1 e hp he
        have := h2 _ hmem (by simp only; omega) (by simp only; omega) se se1 oe (by simp only; rw [show e - (u + 1) = k by omega]; exact hse) (by simp only; rw [show e - (u + 1) = k by omega]; exact hse1) (by simp only; rw [show e - (u + 1) = k by omega]; exact hoe) (hat k oe _ hoe (by rw [show u + (k + 1) = e by omega]; exact (hcls _ hp).2)) hw.2
        rw [hrd, hrd]
        simp only [Same] at this
        rw [this.1, this.2]
        rfl
      · rfl
    · by_cases hee : e = i
      · subst hee
        have he : e < u := by omega
        obtain ⟨k, hk⟩ : ∃ k, u = e + 1 + k := ⟨u - e - 1, by omega⟩
        have hk1 : u - e = k + 1 := by omega
        have hkl : k < l.length := by omega
        obtain ⟨si, hsi⟩ : ∃ se, sts[k]? = some se := ⟨sts[k]'(by omega), List.getElem?_eq_getElem _⟩
        obtain ⟨oi, hoi⟩ : ∃ oe, l[k]? = some oe := ⟨l[k], List.getElem?_eq_getElem _⟩
        simp only [chkL, Nat.sub_self, hk1, List.getElem?_cons_zero, List.getElem?_cons_succ, hsi, hoi, hs0, Nat.zero_add]
        split
        · rename_i hw
          simp only [Bool.and_eq_true] at hw
          have hmem := hef hw.2 u hp he
          have := h3 _ hmem (by simp only; omega) (by simp only; omega) si oi (by simp only; rw [show u - (e + 1) = k by omega]; exact hsi) (by simp only; rw [show u - (e + 1) = k by omega]; exact hoi) (hat k oi _ hoi (by rw [show e + (k + 1) = u by omega]; exact (hcls _ hp).1)) hw.1
          simp only at this
          rw [this.1, this.2]
          rfl
        · rfl
      · have := h1 (u, e) hp (by simp only; omega) (by simp only; omega) (by simp only; omega) (by simp only; omega)
        simp only at this
        rw [show u - i = u - (i + 1) + 1 by omega, show e - i = e - (i + 1) + 1 by omega]
        simp only [chkL, List.getElem?_cons_succ] at this ⊢
        exact this
  · intro m' hm' g1 g2 se se1 oe e1 e2 e3 hcl hw
    simp only [List.length_cons] at g2
    by_cases hi : m'.1 = i
    · rw [hi, Nat.sub_self] at e1 e2 e3
      simp only [List.getElem?_cons_zero, Option.some.injEq] at e1 e3
      subst e1 e3
      simp only [List.getElem?_cons_succ, hs0, Option.some.injEq, Nat.zero_add] at e2
      subst e2
      obtain ⟨q, t, p, G⟩ := m'
      simp only at hi
      subst hi
      exact hM hcl hw t p G hm'
    · have := h2 m' (hMs m' hm') (by omega) (by omega) se se1 oe
      rw [show m'.1 - i = m'.1 - (i + 1) + 1 by omega] at e1 e2 e3
      simp only [List.getElem?_cons_succ] at e1 e2 e3
      exact this e1 e2 e3 hcl hw
  · intro m' hm' g1 g2 si oi e1 e3 hcl hw
    simp only [List.length_cons] at g2
    by_cases hi : m'.1 = i
    · rw [hi, Nat.sub_self] at e1 e3
      simp only [List.getElem?_cons_zero, Option.some.injEq] at e1 e3
      subst e1 e3
      obtain ⟨q, G0, G1⟩ := m'
      simp only at hi
      subst hi
      exact hN hcl hw G0 G1 hm'
    · have := h3 m' (hNs m' hm') (by omega) (by omega) si oi
      rw [show m'.1 - i = m'.1 - (i + 1) + 1 by omega] at e1 e3
      simp only [List.getElem?_cons_succ] at e1 e3
      exact this e1 e3 hcl hw
end
end Go.Ab

/- What must hold is enough: all steps together; the rules by which a proof goes on. -/
set_option linter.unusedVariables false
set_option linter.unusedSimpArgs false
namespace Go.Ab

section
variable {T : Tab} {lo : List Nat} {nt : Nat} {pt : List (Nat × List (Nat × Nat))} {rs : List ResultVar} {Q : Value → AH → Prop}

theorem putW_ok {dst : Option Nat} (hd : ∀ d, dst = some d → d < nt) {v : Value} {F : Kont} {V : List Value} {A : List (Nat × Value)} {a : Act} (hk : Knows lo nt V A a) (h : putW lo dst v F V A) : ∃ V' A', Knows lo nt V' A' (a.put dst v) ∧ F V' A' := by
  unfold putW at h
  cases dst with
  | none => exact ⟨V, A, hk, h⟩
  | some d =>
    obtain ⟨h1, h2⟩ := hk.put (hd d rfl) v
    simp only at h
    split at h
    · rename_i hl; exact ⟨_, _, h1 hl, h⟩
    · rename_i hl; exact ⟨_, _, h2 hl, h⟩
theorem assoc_repA : ∀ (A : List (Nat × Value)) (d : Nat) (v : Value) (t : Nat), assoc (repA A d v) t = if t = d then some v else assoc A t
  | [], d, v, t => by
    simp only [repA, assoc]
    by_cases h : d = t
    · subst h; simp
    · rw [if_neg h, if_neg (fun e => h e.symm)]
  | (u, w) :: A, d, v, t => by
    simp only [repA]
    by_cases h : u = d
    · subst h
      rw [if_pos rfl]
      simp only [assoc]
      by_cases h2 : u = t
      · subst h2; simp
      · rw [if_neg h2, if_neg (fun e => h2 e.symm), if_neg h2]
    · rw [if_neg h]
      simp only [assoc]
      by_cases h2 : u = t
      · subst h2; rw [if_pos rfl, if_neg h, if_pos rfl]
      · rw [if_neg h2, if_neg h2]; exact assoc_repA A d v t
theorem layW_ok {d : Nat} {v : Value} {F : Kont} {V : List Value} {A : List (Nat × Value)} {a : Act} (hd : d < nt) (hk : Knows lo nt V A a) (ha : a.put (some d) v = a) (h : layW lo d v F V A) : ∃ V' A', Knows lo nt V' A' a ∧ F V' A' := by
  unfold layW at h
  obtain ⟨h1, h2⟩ := hk.put hd v
  rw [ha] at h1 h2
  split at h
  · rename_i hl; exact ⟨_, _, h1 hl, h⟩
  · rename_i hl
    refine ⟨_, _, (h2 hl).less fun t u e => ?_, h⟩
    rw [assoc_repA] at e
    simp only [assoc]
    by_cases ht : d = t
    · subst ht; rw [if_pos rfl] at e ⊢; exact e
    · rw [if_neg (fun e => ht e.symm)] at e; rw [if_neg ht]; exact e
theorem resL_ok {V : List Value} {A : List (Nat × Value)} {a : Act} {H : AH} (hk : Knows lo nt V A a) : ∀ {rs : List ResultVar} {vs : List Value}, resL T lo H V A rs = some vs → aresL T a H rs = some vs
  | [], vs, e => e
  | .tmp t :: rs, vs, e => by
    simp only [resL] at e
    split at e
    · cases e
    · rename_i v hv
      simp only [aresL, ares1, hk.at_ t v hv]
      split at e
      · cases e
      · rename_i ws hws; rw [resL_ok hk hws]; exact e
  | .cell p t :: rs, vs, e => by
    simp only [resL] at e
    split at e
    · cases e
    · rename_i v hv
      unfold load2 at hv
      split at hv
      · rename_i u hu
        simp only [aresL, ares1, hk.at_ p u hu, hv]
        split at e
        · cases e
        · rename_i ws hws; rw [resL_ok hk hws]; exact e
      · cases hv
theorem resQ_ok {V : List Value} {A : List (Nat × Value)} {a : Act} {H : AH} (hk : Knows lo nt V A a) (h : resQ Q (resL T lo H V A rs) H) : ∃ r, aresR T rs a H = some r ∧ Q r H := by
  unfold resQ at h
  unfold aresR
  split at h
  · rename_i v hv; rw [resL_ok hk hv]; exact ⟨v, rfl, h⟩
  · rename_i vs hne hv
    rw [resL_ok hk hv]
    split
    · rename_i u hu; cases hu; exact absurd rfl (hne u)
    · rename_i ws hne' hw
      cases hw
      simp only [h.1, if_true]
      exact ⟨_, rfl, h.2⟩
    · rename_i hw; cases hw
  · exact h.elim
theorem Good.done {a : Act} {H : AH} {e : AExit} (he : e = .normal ∨ e = .ret) {V : List Value} {A : List (Nat × Value)} (hk : Knows lo nt V A a) (h : resQ Q (resL T lo H V A rs) H) : Good T rs Q (.unw e []) a H := by
  obtain ⟨r, hr, hq⟩ := resQ_ok hk h
  rcases he with rfl | rfl
  · exact ⟨0, _, r, H, rfl, by simp [close, hr], hq⟩
  · exact ⟨0, _, r, H, rfl, by simp [close, hr], hq⟩

theorem aop_pure {a : Act} {op : Op} {H : AH} {v : Value} (hc : cls op = .pure) (h : apure T a op = some v) : aop T a op H = some (v, H) := by simp [aop, hc, h, keep]
theorem aop_load {a : Act} {op : Op} {H : AH} {v : Value} (hc : cls op = .load) (h : aread T a op H.get = some v) : aop T a op H = some (v, H) := by simp [aop, hc, h, keep]
theorem aop_make {a : Act} {op : Op} {H : AH} {r : Value × AH} (hc : cls op = .make) (h : anew H (amakes T a op H.size) = some r) : aop T a op H = some r := by simp [aop, hc, h]
theorem aop_eff {a : Act} {op : Op} {H : AH} {r : Value × AH} (hc : cls op = .eff) (h : aeff T a op H = some r) : aop T a op H = some r := by simp [aop, hc, h]

/-- What one operation's rule asks: that it answers, and the rest. -/
theorem step_opt {ops : Array Oper} {o : Oper} {p : Ph} {a : Act} {H : AH} {V : List Value} {A : List (Nat × Value)} (hk : Knows lo nt V A a) (hd : ∀ d, o.dst = some d → d < nt)
    {F : Kont} (hF : ∀ V A, F V A → ∀ a, Knows lo nt V A a → Good T rs Q p a H) {r : Option Value} (hs : acallee T a o.op = none) (ho : ∀ v, r = some v → aop T a o.op H = some (v, H)) (h : optW lo o.dst r F V A) : Good T rs Q (.op ops o p) a H := by
  unfold optW at h
  split at h
  · rename_i v
    obtain ⟨V', A', hk', hF'⟩ := putW_ok hd hk h
    exact Good.step hs (ho v rfl) (hF _ _ hF' _ hk')
  · exact h.elim
theorem step_optH {ops : Array Oper} {o : Oper} {p : Ph} {a : Act} {H : AH} {V : List Value} {A : List (Nat × Value)} (hk : Knows lo nt V A a) (hd : ∀ d, o.dst = some d → d < nt)
    {F : AH → Kont} (hF : ∀ H1 V A, F H1 V A → ∀ a, Knows lo nt V A a → Good T rs Q p a H1) {r : Option (Value × AH)} (hs : acallee T a o.op = none) (ho : ∀ v, r = some v → aop T a o.op H = some v) (h : optHW lo o.dst r F V A) : Good T rs Q (.op ops o p) a H := by
  unfold optHW at h
  split at h
  · rename_i v H1
    obtain ⟨V', A', hk', hF'⟩ := putW_ok hd hk h
    exact Good.step hs (ho _ rfl) (hF _ _ _ hF' _ hk')
  · exact h.elim

section
variable {g : Ev} {a : Act} (hg : ∀ x v, g x = some v → aev T a x = some v)
include hg
theorem pick2_ok {c x y : Operand} {v : Value} (h : pick2 (g c) (g x) (g y) = some v) : apure T a (.pick c x y) = some v := by
  unfold pick2 at h
  split at h
  · rename_i h1 h2 h3; simp only [apure, hg _ _ h1, hg _ _ h2, hg _ _ h3]; exact h
  · rename_i h1 h2 h3; simp only [apure, hg _ _ h1, hg _ _ h2, hg _ _ h3]; exact h
  · cases h
theorem build2_ok {t : TypeId} {ps : Array (Nat × Operand)} {v : Value} (h : build2 T t (gparts g ps.toList) = some v) : apure T a (.build t ps) = some v := by
  unfold build2 at h
  split at h
  · rename_i h1; simp only [apure, gparts_ok hg h1]; exact h
  · cases h
theorem nil2_ok {x : Operand} {v : Value} (h : nil2 (g x) = some v) : apure T a (.nilCheck x) = some v := by
  unfold nil2 at h
  split at h
  · rename_i h1; simp only [apure, hg _ _ h1]; exact h
  · cases h
theorem bin2_ok {op : BinOp} {t : TypeId} {x y : Operand} {p : TypeId} {v : Value} (h : bin2 T op t (g x) (g y) = some v) : apure T a (.binOp op t x y p) = some v := by
  unfold bin2 at h
  split at h
  · rename_i h1 h2; simp only [apure, hg _ _ h1, hg _ _ h2]; exact h
  · cases h
theorem un2_ok {op : UnOp} {t : TypeId} {x : Operand} {v : Value} (h : un2 op (g x) = some v) : apure T a (.unOp op t x) = some v := by
  unfold un2 at h
  split at h
  · rename_i h1; simp only [apure, hg _ _ h1]; exact h
  · cases h
theorem conv2_ok {s d : TypeId} {x : Operand} {v : Value} (h : conv2 T s d (g x) = some v) : apure T a (.convert s d x) = some v := by
  unfold conv2 at h
  split at h
  · rename_i h1; simp only [apure, hg _ _ h1]; exact h
  · cases h
theorem func2_ok {f : FuncId} {first : Array Operand} {caps : Array Operand} {v : Value} (h : func2 f first (gvals g caps.toList) = some v) : apure T a (.makeFunc (.func f) first caps) = some v := by
  unfold func2 at h
  split at h
  · rename_i h1; simp only [apure, gvals_ok hg h1]; exact h
  · cases h
theorem slice2_ok {t : TypeId} {x : Operand} {b e : Option Operand} {v : Value} (h : slice2 T t (g x) (gopt g b) (gopt g e) = some v) : apure T a (.slice t x b e none) = some v := by
  unfold slice2 at h
  split at h
  · rename_i h1 h2 h3; simp only [apure, hg _ _ h1, gopt_ok hg h2, gopt_ok hg h3]; exact h
  · cases h
theorem faddr2_ok {t : TypeId} {x : Operand} {f : Nat} {v : Value} (h : faddr2 T t (g x) f = some v) : apure T a (.fieldAddr t x f) = some v := by
  unfold faddr2 at h
  split at h
  · rename_i h1; simp only [apure, hg _ _ h1]; exact h
  · cases h
theorem field2_ok {t : TypeId} {x : Operand} {f : Nat} {v : Value} (h : field2 T t (g x) f = some v) : apure T a (.field t x f) = some v := by
  unfold field2 at h
  split at h
  · rename_i h1; simp only [apure, hg _ _ h1]; exact h
  · cases h
theorem iaddr2_ok {t : TypeId} {x i : Operand} {v : Value} (h : iaddr2 T t (g x) (g i) = some v) : apure T a (.indexAddr t x i) = some v := by
  unfold iaddr2 at h
  split at h
  · rename_i h1 h2; simp only [apure, hg _ _ h1, hg _ _ h2]; exact h
  · cases h
theorem index2_ok {t : TypeId} {x i : Operand} {v : Value} (h : index2 T t (g x) (g i) = some v) : apure T a (.index t x i) = some v := by
  unfold index2 at h
  split at h
  · rename_i h0 h1 h2; simp only [apure, h0, hg _ _ h1, hg _ _ h2]; exact h
  · cases h
theorem extract2_ok {x : Operand} {i : Nat} {v : Value} (h : extract2 (g x) i = some v) : apure T a (.extract x i) = some v := by
  unfold extract2 at h
  split at h
  · rename_i h1; simp only [apure, hg _ _ h1]; exact h
  · cases h
theorem load2_ok {t : TypeId} {x : Operand} {G : Nat → Option Blk} {v : Value} (h : load2 T t (g x) G = some v) : aread T a (.load t x) G = some v := by
  unfold load2 at h
  split at h
  · rename_i h1; simp only [aread, hg _ _ h1]; exact h
  · cases h
theorem box2_ok {t : TypeId} {x : Operand} {H : AH} {r : Value × AH} (h : box2 (g x) H = some r) : anew H (amakes T a (.box t x) H.size) = some r := by
  unfold box2 at h
  split at h
  · rename_i h1; simp only [amakes, hg _ _ h1]; exact h
  · cases h
theorem bslice2_ok {t : TypeId} {k : Nat} {ps : Array (Nat × Operand)} {H : AH} {r : Value × AH} (h : bslice2 T t k (gparts g ps.toList) H = some r) : anew H (amakes T a (.buildSlice t k ps) H.size) = some r := by
  unfold bslice2 at h
  split at h
  · rename_i h1; simp only [amakes, gparts_ok hg h1]; exact h
  · cases h
theorem mslice2_ok {t : TypeId} {x y : Operand} {H : AH} {r : Value × AH} (h : mslice2 T t (g x) (g y) H = some r) : anew H (amakes T a (.makeSlice t x y) H.size) = some r := by
  unfold mslice2 at h
  split at h
  · rename_i h1 h2; simp only [amakes, hg _ _ h1, hg _ _ h2]; exact h
  · cases h
theorem store2_ok {t : TypeId} {x y : Operand} {H : AH} {r : Value × AH} (h : store2 T t (g x) (g y) H = some r) : aeff T a (.store t x y) H = some r := by
  unfold store2 at h
  split at h
  · rename_i h1 h2; simp only [aeff, hg _ _ h1, hg _ _ h2]; exact h
  · cases h
end

/-- A guarded operation's two ways. -/
theorem guard_ok {ops : Array Oper} {o : Oper} {j : Nat} {b : Bool} {F G : Kont} {V : List Value} {A : List (Nat × Value)} {a : Act} (hgd : o.guard = some (j, b)) (hd : ∀ d, o.dst = some d → d < nt) (hk : Knows lo nt V A a) (h : guardAt lo (dstAt ops.toList j) b F (putW lo o.dst undef G) V A) :
    (Region.wanted o (yielded ops a.tmps) = true ∧ ∃ V' A', Knows lo nt V' A' a ∧ F V' A') ∨ (Region.wanted o (yielded ops a.tmps) = false ∧ ∃ V' A', Knows lo nt V' A' (a.put o.dst undef) ∧ G V' A') := by
  unfold guardAt at h
  split at h
  · rename_i d hj
    have hj : (ops[j]?).bind (·.dst) = some d := by rw [dstAt_eq] at hj; simpa using hj
    unfold guardW at h
    split at h
    · rename_i c hc
      have hy : yielded ops a.tmps j = c := by
        have h1 := hk.at_ d _ hc
        unfold Go.yielded
        rw [hj, Option.bind_some]
        rw [Array.getD_eq_getD_getElem?] at h1
        cases h2 : a.tmps[d]? with
        | none => rw [h2] at h1; simp [undef] at h1
        | some u => rw [h2] at h1; simp only [Option.getD_some] at h1; rw [h1]
      have hdn : d < nt := by
        have hs := hk.size
        by_cases hdn : d < nt
        · exact hdn
        · have := hk.at_ d _ hc
          rw [Array.getD_eq_getD_getElem?, Array.getElem?_eq_none (hs ▸ Nat.le_of_not_lt hdn)] at this
          simp [undef] at this
      have hput : ∀ c', c = c' → a.put (some d) (.bool c') = a := by
        rintro c' rfl
        have hs := hk.size
        have hd2 : d < a.tmps.size := Nat.lt_of_lt_of_eq hdn hs.symm
        have h1 := hk.at_ d _ hc
        rw [Array.getD_eq_getD_getElem?, Array.getElem?_eq_getElem hd2] at h1
        have h1 : a.tmps[d] = .bool c := h1
        have h2 : a.tmps.setIfInBounds d (.bool c) = a.tmps := by
          rw [← h1]
          exact Array.ext (by simp) fun i hi hj => by
            rw [Array.getElem_setIfInBounds]
            split
            · rename_i e; subst e; rfl
            · rfl
        simp [Act.put, h2]
      by_cases hcb : c = b
      · obtain ⟨V', A', hk', hF⟩ := layW_ok hdn hk (hput b hcb) (h.1 hcb)
        exact .inl ⟨by simp [Region.wanted, hgd, hy, hcb], V', A', hk', hF⟩
      · have hcb2 : c = !b := by cases c <;> cases b <;> simp_all
        obtain ⟨V', A', hk', hF⟩ := layW_ok hdn hk (hput _ hcb2) (h.2 hcb2)
        obtain ⟨V2, A2, hk2, hF2⟩ := putW_ok hd hk' hF
        exact .inr ⟨by simp [Region.wanted, hgd, hy, hcb], V2, A2, hk2, hF2⟩
    · rename_i u hnb hu
      have hy : yielded ops a.tmps j = none := by
        have h1 := hk.at_ d _ hu
        unfold Go.yielded
        rw [hj, Option.bind_some]
        rw [Array.getD_eq_getD_getElem?] at h1
        cases h2 : a.tmps[d]? with
        | none => rfl
        | some w =>
          rw [h2] at h1
          simp only [Option.getD_some] at h1
          subst h1
          cases w <;> first | rfl | exact absurd rfl (hnb _)
      obtain ⟨V2, A2, hk2, hF2⟩ := putW_ok hd hk h
      exact .inr ⟨by simp [Region.wanted, hgd, hy], V2, A2, hk2, hF2⟩
    · exact h.elim
  · exact h.elim
theorem okO_cons {o : Oper} {l : List Oper} : okO nt (o :: l) = true → okO nt [o] = true ∧ okO nt l = true := by intro h; simpa [okO] using h
theorem okO_dst {o : Oper} (h : okO nt [o] = true) : ∀ d, o.dst = some d → d < nt := by
  intro d e
  simp only [okO, List.all_cons, List.all_nil, Bool.and_true, e, decide_eq_true_eq] at h
  exact h
theorem okD_spec {ops : Array Oper} {ps : List (Nat × Nat)} (h : okD ops ps = true) : statOk ops = true ∧ drawPairs ops = ps ∧ ∀ p ∈ ps, isCls ops p.1 .load = true ∧ isCls ops p.2 .eff = true := by
  simp only [okD, Bool.and_eq_true, beq_iff_eq, List.all_eq_true] at h
  exact ⟨h.1.1, h.1.2, h.2⟩
theorem isCls_at {ops : Array Oper} {i : Nat} {o : Oper} {l : List Oper} {c : Cls} (hl : ops.toList.drop i = o :: l) (h : isCls ops i c = true) : cls o.op = c := by
  have : ops[i]? = some o := by
    have h1 : (ops.toList.drop i)[0]? = some o := by rw [hl]; rfl
    rw [List.getElem?_drop] at h1
    simpa using h1
  simpa [isCls, this] using h
theorem drop_succ {α : Type} {xs l : List α} {i : Nat} {x : α} (h : xs.drop i = x :: l) : xs.drop (i + 1) = l := by
  have : (xs.drop i).drop 1 = l := by rw [h]; rfl
  rwa [List.drop_drop] at this

theorem W_sat : ∀ (n : Nat) (p : Ph) (H : AH) (V : List Value) (A : List (Nat × Value)), W T lo nt pt rs Q n p H V A → Sat T lo nt pt rs Q p H V A := by
  intro n
  induction n with
  | zero => intro p H V A h; exact h.elim
  | succ n ih =>
    intro p H V A h hok a hk
    have go : ∀ p H V A, W T lo nt pt rs Q n p H V A → okP nt pt p → ∀ a, Knows lo nt V A a → Good T rs Q p a H := fun p H V A h => ih p H V A h
    cases p with
    | code c K =>
      obtain ⟨hc, hK⟩ := hok
      cases c <;> simp only [W] at h <;> try exact h.elim
      case skip => exact Good.skip (go _ _ _ _ h hK a hk)
      case region id ops d =>
        simp only [okC, Bool.and_eq_true, Bool.or_eq_true, Bool.not_eq_true'] at hc
        cases d
        · exact Good.region (fun hd => by cases hd) (go _ _ _ _ h ⟨hc.1, hK⟩ a hk)
        · have hD : okD ops (pairsAt pt id) = true := by
            rcases hc.2 with h1 | h1
            · cases h1
            · exact h1
          obtain ⟨d1, d2, d3⟩ := okD_spec hD
          simp only at h
          split at h
          · rename_i he
            exact Good.region (fun _ => ⟨d1, d2.trans he⟩) (go _ _ _ _ h ⟨hc.1, hK⟩ a hk)
          · rename_i p ps he
            exact Good.regionP d1 (d2.trans he) (by simp) (go _ _ _ _ h ⟨hc.1, hK, by simp, he ▸ hD⟩ a hk)
      case seq x y =>
        simp only [okC, Bool.and_eq_true] at hc
        exact Good.seq (go _ _ _ _ h ⟨hc.1, by simp [okK, hc.2, hK]⟩ a hk)
      case cond c x y =>
        simp only [okC, Bool.and_eq_true] at hc
        unfold condW at h
        split at h
        · rename_i b hb
          have hk' : Knows lo nt V [] a := hk.less fun t v e => by simp [assoc] at e
          refine Good.cond (hk.ev c _ hb) ?_
          cases b
          · exact go _ _ _ _ (h.2 rfl) ⟨hc.2, hK⟩ a hk'
          · exact go _ _ _ _ (h.1 rfl) ⟨hc.1, hK⟩ a hk'
        · exact h.elim
      case block id x => exact Good.block (go _ _ _ _ h ⟨hc, by simpa [okK] using hK⟩ a hk)
      case loop x => exact h ⟨hc, hK⟩ a (hk.less fun t v e => by simp [assoc] at e)
      case exit id => exact Good.exit (go _ _ _ _ h hK a hk)
      case ret => exact Good.ret (go _ _ _ _ h hK a hk)
      case label l => exact Good.label (go _ _ _ _ h hK a hk)
    | unw e K =>
      cases K with
      | nil => cases e <;> simp only [W] at h
               · exact Good.done (.inl rfl) hk h
               · exact Good.done (.inr rfl) hk h
      | cons k K =>
        cases k with
        | code y =>
          simp only [okP, okK, Bool.and_eq_true] at hok
          cases e <;> simp only [W] at h
          · exact Good.unwCode (go _ _ _ _ h ⟨hok.1, hok.2⟩ a hk)
          · exact GoodR.by (go _ _ _ _ h hok.2 a hk) fun n x e => ⟨n, e⟩
          · exact GoodR.by (go _ _ _ _ h hok.2 a hk) fun n x e => ⟨n, e⟩
        | blk id =>
          simp only [okP, okK] at hok
          cases e with
          | normal => simp only [W] at h; exact GoodR.by (go _ _ _ _ h hok a hk) fun n x e => ⟨n, e⟩
          | exit id' =>
            simp only [W] at h
            split at h
            · rename_i hi; exact GoodR.by (go _ _ _ _ h hok a hk) fun n x e => ⟨n, by simp only [runPh, fin, hi, if_true]; exact e⟩
            · rename_i hi; exact GoodR.by (go _ _ _ _ h hok a hk) fun n x e => ⟨n, by simp only [runPh, fin, hi, if_false]; exact e⟩
          | ret => simp only [W] at h; exact GoodR.by (go _ _ _ _ h hok a hk) fun n x e => ⟨n, e⟩
        | lp y =>
          simp only [okP, okK, Bool.and_eq_true] at hok
          cases e <;> simp only [W] at h
          · exact Good.unwLoop (h ⟨hok.1, hok.2⟩ a (hk.less fun t v e => by simp [assoc] at e))
          · exact GoodR.by (go _ _ _ _ h hok.2 a hk) fun n x e => ⟨n, e⟩
          · exact GoodR.by (go _ _ _ _ h hok.2 a hk) fun n x e => ⟨n, e⟩
    | ops ops l K =>
      obtain ⟨hl, hK⟩ := hok
      cases l with
      | nil => simp only [W] at h; exact Good.opsNil (go _ _ _ _ h hK a hk)
      | cons o l =>
        obtain ⟨hl1, hl2⟩ := okO_cons hl
        have hd := okO_dst hl1
        simp only [W] at h
        split at h
        · rename_i hg
          exact Good.opsOp (by simp [Region.wanted, hg]) (go _ _ _ _ h ⟨hl1, hl2, hK⟩ a hk)
        · rename_i j b hg
          rcases guard_ok hg hd hk h with ⟨hw, V', A', hk', hF⟩ | ⟨hw, V', A', hk', hF⟩
          · exact Good.opsOp hw (go _ _ _ _ hF ⟨hl1, hl2, hK⟩ a hk')
          · exact Good.opsSkip hw (go _ _ _ _ hF ⟨hl2, hK⟩ _ hk')
    | opsP ops l i ps M N K =>
      obtain ⟨hl, hK, hdr, hD⟩ := hok
      cases l with
      | nil => simp only [W] at h; exact GoodP.nil (go _ _ _ _ h hK a hk)
      | cons o l =>
        obtain ⟨hl1, hl2⟩ := okO_cons hl
        have hd := okO_dst hl1
        obtain ⟨d1, d2, d3⟩ := okD_spec hD
        simp only [W] at h
        split at h
        · rename_i hg
          exact go _ _ _ _ h ⟨hl1, hl2, hK, hdr, hD⟩ a hk (by simp [Region.wanted, hg])
        · rename_i j b hg
          rcases guard_ok hg hd hk h with ⟨hw, V', A', hk', hF⟩ | ⟨hw, V', A', hk', hF⟩
          · exact go _ _ _ _ hF ⟨hl1, hl2, hK, hdr, hD⟩ a hk' hw
          · refine GoodP.cons (.inr ⟨hw, rfl, rfl⟩) (go _ _ _ _ hF ⟨hl2, hK, drop_succ hdr, hD⟩ _ hk') (fun _ h => h) (fun _ h => h) hdr d3 (fun h => by rw [hw] at h; cases h) (fun h => by rw [hw] at h; cases h) (fun _ h => by rw [hw] at h; cases h) (fun _ h => by rw [hw] at h; cases h)
    | opP ops o l i ps M N K =>
      intro hw
      obtain ⟨hl1, hl2, hK, hdr, hD⟩ := hok
      obtain ⟨d1, d2, d3⟩ := okD_spec hD
      have hld0 : ∀ e, (i, e) ∈ ps → cls o.op = .load := fun e he => isCls_at hdr (d3 _ he).1
      have hef0 : ∀ j, (j, i) ∈ ps → cls o.op = .eff := fun e he => isCls_at hdr (d3 _ he).2
      simp only [W] at h
      split at h
      · rename_i t x hop
        unfold ldW at h
        split at h
        · rename_i p hp
          have hpa := hk.ev x p hp
          obtain ⟨n0, v, H1, hs, hG⟩ := go _ _ _ _ h.2 ⟨hl1, hl2, hK, drop_succ hdr, hD⟩ a hk
          have hc : cls o.op = .load := by rw [hop]; rfl
          have hH : H1 = H := by
            have ha : acallee T a o.op = none := by rw [hop]; rfl
            simp only [astep, ha, aop, hc] at hs
            unfold keep at hs
            split at hs
            · cases hs; rfl
            · cases hs
          subst hH
          refine GoodP.cons (.inl ⟨hw, n0, v, hs, rfl⟩) hG (fun m h => sub_addM h) (fun _ h => h) hdr d3 ?_ ?_ ?_ ?_
          · intro _ e he _
            refine ⟨t, p, mem_addM he, fun G => ?_⟩
            simp only [hop, aread, hpa]
          · intro _ j hj _
            rw [hef0 j hj] at hc; cases hc
          · intro he; rw [hc] at he; cases he
          · intro _ _ G0 G1 hm
            have := allN_mem h.1 hm
            simp only [hop, aread, hpa]
            exact this
        · exact h.elim
      · rename_i op hnl
        split at h
        · rename_i hc
          obtain ⟨n0, v, H1, hs, hA, hG⟩ := go _ _ _ _ h.2 ⟨hl1, hl2, hK, drop_succ hdr, hD⟩ a hk
          refine GoodP.cons (.inl ⟨hw, n0, v, hs, rfl⟩) hG (fun _ h => h) (fun m h => sub_addN h) hdr d3 ?_ ?_ ?_ ?_
          · intro _ e he _
            have := hld0 e he
            rw [hc] at this; cases this
          · intro _ j hj _
            exact mem_addN hj
          · intro _ _ t p G hm
            exact ⟨allM_mem h.1 hm, allM_mem hA hm⟩
          · intro he; rw [hc] at he; cases he
        · rename_i hc
          obtain ⟨n0, v, H1, hs, hG⟩ := go _ _ _ _ h ⟨hl1, hl2, hK, drop_succ hdr, hD⟩ a hk
          have hnl2 : cls o.op ≠ .load := by
            intro he
            cases ho : o.op <;> rw [ho] at he <;> simp only [cls] at he <;> try cases he
            case load => exact hnl _ _ ho
            case call => split at he <;> first | (rename_i heq; cases heq; done) | cases he
          refine GoodP.cons (.inl ⟨hw, n0, v, hs, rfl⟩) hG (fun _ h => h) (fun m h => h) hdr d3 ?_ ?_ ?_ ?_
          · intro _ e he _
            exact absurd (hld0 e he) hnl2
          · intro _ j hj _
            exact absurd (hef0 j hj) hc
          · intro he; exact absurd he hc
          · intro he; exact absurd he hnl2
    | aftP ops l i ps M N K H0 =>
      obtain ⟨hl, hK, hdr, hD⟩ := hok
      simp only [W] at h
      exact ⟨h.1, go _ _ _ _ h.2 ⟨hl, hK, hdr, hD⟩ a hk⟩
    | op ops o p =>
      obtain ⟨ho, hp⟩ := hok
      have hd := okO_dst ho
      have hF : ∀ H1 V A, W T lo nt pt rs Q n p H1 V A → ∀ a, Knows lo nt V A a → Good T rs Q p a H1 := fun H1 V A h a hk => go _ _ _ _ h hp a hk
      have hg : ∀ x v, ev T lo V A x = some v → aev T a x = some v := hk.ev
      obtain ⟨dst, op, type, pos, after, guard⟩ := o
      simp only [W] at h
      split at h
      · exact step_opt hk hd (hF H) rfl (fun v e => aop_pure rfl (hg _ v e)) h
      · exact step_opt hk hd (hF H) rfl (fun v e => aop_pure rfl (hg _ v e)) h
      · exact step_opt hk hd (hF H) rfl (fun v e => aop_pure rfl (pick2_ok hg e)) h
      · exact step_opt hk hd (hF H) rfl (fun v e => aop_pure rfl (build2_ok hg e)) h
      · exact step_opt hk hd (hF H) rfl (fun v e => aop_pure rfl (nil2_ok hg e)) h
      · exact step_opt hk hd (hF H) rfl (fun v e => aop_pure rfl (bin2_ok hg e)) h
      · exact step_opt hk hd (hF H) rfl (fun v e => aop_pure rfl (un2_ok hg e)) h
      · exact step_opt hk hd (hF H) rfl (fun v e => aop_pure rfl (conv2_ok hg e)) h
      · exact step_opt hk hd (hF H) rfl (fun v e => aop_pure rfl (func2_ok hg e)) h
      · exact step_opt hk hd (hF H) rfl (fun v e => aop_pure rfl (slice2_ok hg e)) h
      · exact step_opt hk hd (hF H) rfl (fun v e => aop_pure rfl (faddr2_ok hg e)) h
      · exact step_opt hk hd (hF H) rfl (fun v e => aop_pure rfl (field2_ok hg e)) h
      · exact step_opt hk hd (hF H) rfl (fun v e => aop_pure rfl (iaddr2_ok hg e)) h
      · exact step_opt hk hd (hF H) rfl (fun v e => aop_pure rfl (index2_ok hg e)) h
      · exact step_opt hk hd (hF H) rfl (fun v e => aop_pure rfl (extract2_ok hg e)) h
      · exact step_opt hk hd (hF H) rfl (fun v e => aop_load rfl (load2_ok hg e)) h
      · exact step_optH hk hd hF rfl (fun v e => aop_make rfl e) h
      · exact step_optH hk hd hF rfl (fun v e => aop_make rfl (box2_ok hg e)) h
      · exact step_optH hk hd hF rfl (fun v e => aop_make rfl (bslice2_ok hg e)) h
      · exact step_optH hk hd hF rfl (fun v e => aop_make rfl (mslice2_ok hg e)) h
      · exact step_optH hk hd hF rfl (fun v e => aop_eff rfl (store2_ok hg e)) h
      · exact step_opt hk hd (hF H) rfl (fun v e => aop_pure rfl (by
          unfold pureB2 at e; split at e
          · rename_i hv; simp only [apure, gvals_ok hg hv]; exact e
          · cases e)) h
      · exact step_opt hk hd (hF H) rfl (fun v e => aop_pure rfl (by
          unfold pureB2 at e; split at e
          · rename_i hv; simp only [apure, gvals_ok hg hv]; exact e
          · cases e)) h
      · exact step_opt hk hd (hF H) rfl (fun v e => aop_pure rfl (by
          unfold pureB2 at e; split at e
          · rename_i hv; simp only [apure, gvals_ok hg hv]; exact e
          · cases e)) h
      · exact step_optH hk hd hF rfl (fun v e => aop_eff rfl (by
          unfold effB2 at e; split at e
          · rename_i hv; simp only [aeff, gvals_ok hg hv]; exact e
          · cases e)) h
      · exact step_optH hk hd hF rfl (fun v e => aop_eff rfl (by
          unfold effB2 at e; split at e
          · rename_i hv; simp only [aeff, gvals_ok hg hv]; exact e
          · cases e)) h
      · exact step_optH hk hd hF rfl (fun v e => aop_eff rfl (by
          unfold effB2 at e; split at e
          · rename_i hv; simp only [aeff, gvals_ok hg hv]; exact e
          · cases e)) h
      · rename_i f args _ _
        unfold callW at h
        split at h
        · rename_i fi vs hc
          refine Good.call (f := fi) (vs := vs) ?_ (h.mono fun r H1 h => ?_)
          · unfold callee2 at hc
            split at hc
            · rename_i h1 h2
              simp only [acallee, hg _ _ h1, gvals_ok hg h2]
              exact hc
            · cases hc
          · obtain ⟨V', A', hk', hF'⟩ := putW_ok hd hk h
            exact hF _ _ _ hF' _ hk'
        · exact h.elim
      · exact h.elim
end
end Go.Ab

/- The rules by which a proof about the abstract machine goes on, step by step. -/
set_option linter.unusedVariables false
set_option linter.unusedSimpArgs false
namespace Go.Ab
section
variable {T : Tab} {lo : List Nat} {nt : Nat} {pt : List (Nat × List (Nat × Nat))} {rs : List ResultVar} {Q : Value → AH → Prop} {n : Nat} {K : List Fk} {H : AH} {V : List Value} {A : List (Nat × Value)}

theorem nr {α : Type} {a b : α} (h : a = b) : a = b := h
def putV (F : Kont) (V : List Value) (A : List (Nat × Value)) : Prop := F V A
def pickP (ops : Array Oper) (ps : List (Nat × Nat)) (K : List Fk) : Ph := match ps with
  | [] => .ops ops ops.toList K
  | p :: ps => .opsP ops ops.toList 0 (p :: ps) [] [] K
theorem w_skip : W T lo nt pt rs Q (n + 1) (.code (.skip) K) H V A = W T lo nt pt rs Q n (.unw .normal K) H V A := nr rfl
theorem w_region {id : Nat} {ops : Array Oper} : W T lo nt pt rs Q (n + 1) (.code (.region id ops false) K) H V A = W T lo nt pt rs Q n (.ops ops ops.toList K) H V A := nr rfl
theorem w_regionD {id : Nat} {ops : Array Oper} : W T lo nt pt rs Q (n + 1) (.code (.region id ops true) K) H V A = W T lo nt pt rs Q n (pickP ops (pairsAt pt id) K) H V A := by cases h : pairsAt pt id <;> simp only [W, pickP, h]
theorem w_seq {x y : Code} : W T lo nt pt rs Q (n + 1) (.code (.seq x y) K) H V A = W T lo nt pt rs Q n (.code x (.code y :: K)) H V A := nr rfl
theorem w_cond {c : Operand} {x y : Code} : W T lo nt pt rs Q (n + 1) (.code (.cond c x y) K) H V A = condW (ev T lo V A c) (W T lo nt pt rs Q n (.code x K) H V) (W T lo nt pt rs Q n (.code y K) H V) := nr rfl
theorem w_block {id : Nat} {x : Code} : W T lo nt pt rs Q (n + 1) (.code (.block id x) K) H V A = W T lo nt pt rs Q n (.code x (.blk id :: K)) H V A := nr rfl
theorem w_loop {x : Code} : W T lo nt pt rs Q (n + 1) (.code (.loop x) K) H V A = Sat T lo nt pt rs Q (.code (.loop x) K) H V [] := nr rfl
theorem w_exit {id : Nat} : W T lo nt pt rs Q (n + 1) (.code (.exit id) K) H V A = W T lo nt pt rs Q n (.unw (.exit id) K) H V A := nr rfl
theorem w_ret : W T lo nt pt rs Q (n + 1) (.code (.ret) K) H V A = W T lo nt pt rs Q n (.unw .ret K) H V A := nr rfl
theorem w_label {id : Nat} : W T lo nt pt rs Q (n + 1) (.code (.label id) K) H V A = W T lo nt pt rs Q n (.unw .normal K) H V A := nr rfl
theorem w_end : W T lo nt pt rs Q (n + 1) (.unw .normal ([])) H V A = resQ Q (resL T lo H V A rs) H := nr rfl
theorem w_endr : W T lo nt pt rs Q (n + 1) (.unw .ret ([])) H V A = resQ Q (resL T lo H V A rs) H := nr rfl
theorem w_ucn {y : Code} : W T lo nt pt rs Q (n + 1) (.unw .normal (.code y :: K)) H V A = W T lo nt pt rs Q n (.code y K) H V A := nr rfl
theorem w_uce {y : Code} {id : Nat} : W T lo nt pt rs Q (n + 1) (.unw (.exit id) (.code y :: K)) H V A = W T lo nt pt rs Q n (.unw (.exit id) K) H V A := nr rfl
theorem w_ucr {y : Code} : W T lo nt pt rs Q (n + 1) (.unw .ret (.code y :: K)) H V A = W T lo nt pt rs Q n (.unw .ret K) H V A := nr rfl
theorem w_ubn {id : Nat} : W T lo nt pt rs Q (n + 1) (.unw .normal (.blk id :: K)) H V A = W T lo nt pt rs Q n (.unw .normal K) H V A := nr rfl
theorem w_ube {id id' : Nat} : W T lo nt pt rs Q (n + 1) (.unw (.exit id') (.blk id :: K)) H V A = if id' = id then W T lo nt pt rs Q n (.unw .normal K) H V A else W T lo nt pt rs Q n (.unw (.exit id') K) H V A := nr rfl
theorem w_ubr {id : Nat} : W T lo nt pt rs Q (n + 1) (.unw .ret (.blk id :: K)) H V A = W T lo nt pt rs Q n (.unw .ret K) H V A := nr rfl
theorem w_uln {x : Code} : W T lo nt pt rs Q (n + 1) (.unw .normal (.lp x :: K)) H V A = Sat T lo nt pt rs Q (.code (.loop x) K) H V [] := nr rfl
theorem w_ule {x : Code} {id : Nat} : W T lo nt pt rs Q (n + 1) (.unw (.exit id) (.lp x :: K)) H V A = W T lo nt pt rs Q n (.unw (.exit id) K) H V A := nr rfl
theorem w_ulr {x : Code} : W T lo nt pt rs Q (n + 1) (.unw .ret (.lp x :: K)) H V A = W T lo nt pt rs Q n (.unw .ret K) H V A := nr rfl
theorem w_opsn {ops : Array Oper} : W T lo nt pt rs Q (n + 1) (.ops ops [] K) H V A = W T lo nt pt rs Q n (.unw .normal K) H V A := nr rfl
theorem w_opsc {ops : Array Oper} {dst : Option Tmp} {op : Op} {ty : TypeId} {pos : String} {after : Array Edge} {l : List Oper} : W T lo nt pt rs Q (n + 1) (.ops ops (⟨dst, op, ty, pos, after, none⟩ :: l) K) H V A = W T lo nt pt rs Q n (.op ops ⟨dst, op, ty, pos, after, none⟩ (.ops ops l K)) H V A := nr rfl
theorem w_opsg {ops : Array Oper} {dst : Option Tmp} {op : Op} {ty : TypeId} {pos : String} {after : Array Edge} {l : List Oper} {j : Nat} {b : Bool} : W T lo nt pt rs Q (n + 1) (.ops ops (⟨dst, op, ty, pos, after, some (j, b)⟩ :: l) K) H V A =
    guardAt lo (dstAt ops.toList j) b (W T lo nt pt rs Q n (.op ops ⟨dst, op, ty, pos, after, some (j, b)⟩ (.ops ops l K)) H) (putW lo dst undef (W T lo nt pt rs Q n (.ops ops l K) H)) V A := nr rfl
section
variable {ops : Array Oper} {dst : Option Tmp} {op : Op} {ty : TypeId} {pos : String} {after : Array Edge} {l : List Oper} {i j : Nat} {b : Bool} {ps : List (Nat × Nat)} {M : List (Nat × TypeId × Value × AH)} {N : List (Nat × AH × AH)} {gu : Option (Nat × Bool)} {H0 : AH} {o : Oper}
theorem w_pn : W T lo nt pt rs Q (n + 1) (.opsP ops [] i ps M N K) H V A = W T lo nt pt rs Q n (.unw .normal K) H V A := nr rfl
theorem w_pc : W T lo nt pt rs Q (n + 1) (.opsP ops (⟨dst, op, ty, pos, after, none⟩ :: l) i ps M N K) H V A = W T lo nt pt rs Q n (.opP ops ⟨dst, op, ty, pos, after, none⟩ l i ps M N K) H V A := nr rfl
theorem w_pg : W T lo nt pt rs Q (n + 1) (.opsP ops (⟨dst, op, ty, pos, after, some (j, b)⟩ :: l) i ps M N K) H V A =
    guardAt lo (dstAt ops.toList j) b (W T lo nt pt rs Q n (.opP ops ⟨dst, op, ty, pos, after, some (j, b)⟩ l i ps M N K) H) (putW lo dst undef (W T lo nt pt rs Q n (.opsP ops l (i + 1) ps M N K) H)) V A := nr rfl
theorem w_pl {t : TypeId} {x : Operand} : W T lo nt pt rs Q (n + 1) (.opP ops ⟨dst, .load t x, ty, pos, after, gu⟩ l i ps M N K) H V A =
    ldW T (ev T lo V A x) t i N H (fun p => W T lo nt pt rs Q n (.op ops ⟨dst, .load t x, ty, pos, after, gu⟩ (.opsP ops l (i + 1) ps (addM ps i t p H M) N K)) H) V A := nr rfl
theorem w_pa : W T lo nt pt rs Q (n + 1) (.aftP ops l i ps M N K H0) H V A = (allM T M i H ∧ W T lo nt pt rs Q n (.opsP ops l (i + 1) ps M (addN ps i H0 H N) K) H V A) := nr rfl
theorem ld_some {p : Value} {t : TypeId} {F : Value → Kont} : ldW T (some p) t i N H F V A = (allN T N i t p H ∧ putV (F p) V A) := nr rfl
theorem m_nil : allM T [] i H = True := nr rfl
theorem m_cons {e : Nat} {t : TypeId} {p : Value} : allM T ((e, t, p, H0) :: M) i H = (if e = i then Same T t p H0 H ∧ allM T M i H else allM T M i H) := nr rfl
theorem n_nil {t : TypeId} {p : Value} : allN T [] i t p H = True := nr rfl
theorem n_cons {t : TypeId} {p : Value} {H1 : AH} : allN T ((j, H0, H1) :: N) i t p H = (if j = i then (Same T t p H H0 ∧ Same T t p H H1) ∧ allN T N i t p H else allN T N i t p H) := nr rfl
theorem am_nil {t : TypeId} {p : Value} : addM [] i t p H M = M := nr rfl
theorem am_cons {e : Nat} {t : TypeId} {p : Value} : addM ((j, e) :: ps) i t p H M = (if j = i then (e, t, p, H) :: addM ps i t p H M else addM ps i t p H M) := nr rfl
theorem an_nil : addN [] i H0 H N = N := nr rfl
theorem an_cons {e : Nat} : addN ((j, e) :: ps) i H0 H N = (if e = i then (j, H0, H) :: addN ps i H0 H N else addN ps i H0 H N) := nr rfl
theorem pp_nil : pickP ops [] K = .ops ops ops.toList K := nr rfl
theorem pp_cons {p : Nat × Nat} : pickP ops (p :: ps) K = .opsP ops ops.toList 0 (p :: ps) [] [] K := nr rfl
theorem pa_nil {id : Nat} : pairsAt [] id = [] := nr rfl
theorem pa_cons {id : Nat} {pt : List (Nat × List (Nat × Nat))} : pairsAt ((j, ps) :: pt) id = (if j = id then ps else pairsAt pt id) := nr rfl
end
theorem w_move {ops : Array Oper} {dst : Option Tmp} {ty : TypeId} {pos : String} {after : Array Edge} {guard : Option (Nat × Bool)} {p : Ph} {x : Operand} : W T lo nt pt rs Q (n + 1) (.op ops ⟨dst, .move x, ty, pos, after, guard⟩ p) H V A = optW lo dst ((ev T lo V A x)) (W T lo nt pt rs Q n p H) V A := nr rfl
theorem pw_move {ops : Array Oper} {dst : Option Tmp} {ty : TypeId} {pos : String} {after : Array Edge} {l : List Oper} {z : Nat} {zs : List (Nat × Nat)} {M : List (Nat × TypeId × Value × AH)} {N : List (Nat × AH × AH)} {gu : Option (Nat × Bool)} {x : Operand} : W T lo nt pt rs Q (n + 1) (.opP ops ⟨dst, .move x, ty, pos, after, gu⟩ l z zs M N K) H V A = W T lo nt pt rs Q n (.op ops ⟨dst, .move x, ty, pos, after, gu⟩ (.opsP ops l (z + 1) zs M N K)) H V A := nr rfl
theorem w_assign {ops : Array Oper} {dst : Option Tmp} {ty : TypeId} {pos : String} {after : Array Edge} {guard : Option (Nat × Bool)} {p : Ph} {x : Operand} : W T lo nt pt rs Q (n + 1) (.op ops ⟨dst, .assign x, ty, pos, after, guard⟩ p) H V A = optW lo dst ((ev T lo V A x)) (W T lo nt pt rs Q n p H) V A := nr rfl
theorem pw_assign {ops : Array Oper} {dst : Option Tmp} {ty : TypeId} {pos : String} {after : Array Edge} {l : List Oper} {z : Nat} {zs : List (Nat × Nat)} {M : List (Nat × TypeId × Value × AH)} {N : List (Nat × AH × AH)} {gu : Option (Nat × Bool)} {x : Operand} : W T lo nt pt rs Q (n + 1) (.opP ops ⟨dst, .assign x, ty, pos, after, gu⟩ l z zs M N K) H V A = W T lo nt pt rs Q n (.op ops ⟨dst, .assign x, ty, pos, after, gu⟩ (.opsP ops l (z + 1) zs M N K)) H V A := nr rfl
theorem w_pick {ops : Array Oper} {dst : Option Tmp} {ty : TypeId} {pos : String} {after : Array Edge} {guard : Option (Nat × Bool)} {p : Ph} {c x y : Operand} : W T lo nt pt rs Q (n + 1) (.op ops ⟨dst, .pick c x y, ty, pos, after, guard⟩ p) H V A = optW lo dst (pick2 (ev T lo V A c) (ev T lo V A x) (ev T lo V A y)) (W T lo nt pt rs Q n p H) V A := nr rfl
theorem pw_pick {ops : Array Oper} {dst : Option Tmp} {ty : TypeId} {pos : String} {after : Array Edge} {l : List Oper} {z : Nat} {zs : List (Nat × Nat)} {M : List (Nat × TypeId × Value × AH)} {N : List (Nat × AH × AH)} {gu : Option (Nat × Bool)} {c x y : Operand} : W T lo nt pt rs Q (n + 1) (.opP ops ⟨dst, .pick c x y, ty, pos, after, gu⟩ l z zs M N K) H V A = W T lo nt pt rs Q n (.op ops ⟨dst, .pick c x y, ty, pos, after, gu⟩ (.opsP ops l (z + 1) zs M N K)) H V A := nr rfl
theorem w_build {ops : Array Oper} {dst : Option Tmp} {ty : TypeId} {pos : String} {after : Array Edge} {guard : Option (Nat × Bool)} {p : Ph} {t : TypeId} {ps : Array (Nat × Operand)} : W T lo nt pt rs Q (n + 1) (.op ops ⟨dst, .build t ps, ty, pos, after, guard⟩ p) H V A = optW lo dst (build2 T t (gparts (ev T lo V A) ps.toList)) (W T lo nt pt rs Q n p H) V A := nr rfl
theorem pw_build {ops : Array Oper} {dst : Option Tmp} {ty : TypeId} {pos : String} {after : Array Edge} {l : List Oper} {z : Nat} {zs : List (Nat × Nat)} {M : List (Nat × TypeId × Value × AH)} {N : List (Nat × AH × AH)} {gu : Option (Nat × Bool)} {t : TypeId} {ps : Array (Nat × Operand)} : W T lo nt pt rs Q (n + 1) (.opP ops ⟨dst, .build t ps, ty, pos, after, gu⟩ l z zs M N K) H V A = W T lo nt pt rs Q n (.op ops ⟨dst, .build t ps, ty, pos, after, gu⟩ (.opsP ops l (z + 1) zs M N K)) H V A := nr rfl
theorem w_nil {ops : Array Oper} {dst : Option Tmp} {ty : TypeId} {pos : String} {after : Array Edge} {guard : Option (Nat × Bool)} {p : Ph} {x : Operand} : W T lo nt pt rs Q (n + 1) (.op ops ⟨dst, .nilCheck x, ty, pos, after, guard⟩ p) H V A = optW lo dst (nil2 (ev T lo V A x)) (W T lo nt pt rs Q n p H) V A := nr rfl
theorem pw_nil {ops : Array Oper} {dst : Option Tmp} {ty : TypeId} {pos : String} {after : Array Edge} {l : List Oper} {z : Nat} {zs : List (Nat × Nat)} {M : List (Nat × TypeId × Value × AH)} {N : List (Nat × AH × AH)} {gu : Option (Nat × Bool)} {x : Operand} : W T lo nt pt rs Q (n + 1) (.opP ops ⟨dst, .nilCheck x, ty, pos, after, gu⟩ l z zs M N K) H V A = W T lo nt pt rs Q n (.op ops ⟨dst, .nilCheck x, ty, pos, after, gu⟩ (.opsP ops l (z + 1) zs M N K)) H V A := nr rfl
theorem w_bin {ops : Array Oper} {dst : Option Tmp} {ty : TypeId} {pos : String} {after : Array Edge} {guard : Option (Nat × Bool)} {p : Ph} {op : BinOp} {t q : TypeId} {x y : Operand} : W T lo nt pt rs Q (n + 1) (.op ops ⟨dst, .binOp op t x y q, ty, pos, after, guard⟩ p) H V A = optW lo dst (bin2 T op t (ev T lo V A x) (ev T lo V A y)) (W T lo nt pt rs Q n p H) V A := nr rfl
theorem pw_bin {ops : Array Oper} {dst : Option Tmp} {ty : TypeId} {pos : String} {after : Array Edge} {l : List Oper} {z : Nat} {zs : List (Nat × Nat)} {M : List (Nat × TypeId × Value × AH)} {N : List (Nat × AH × AH)} {gu : Option (Nat × Bool)} {op : BinOp} {t q : TypeId} {x y : Operand} : W T lo nt pt rs Q (n + 1) (.opP ops ⟨dst, .binOp op t x y q, ty, pos, after, gu⟩ l z zs M N K) H V A = W T lo nt pt rs Q n (.op ops ⟨dst, .binOp op t x y q, ty, pos, after, gu⟩ (.opsP ops l (z + 1) zs M N K)) H V A := nr rfl
theorem w_un {ops : Array Oper} {dst : Option Tmp} {ty : TypeId} {pos : String} {after : Array Edge} {guard : Option (Nat × Bool)} {p : Ph} {op : UnOp} {t : TypeId} {x : Operand} : W T lo nt pt rs Q (n + 1) (.op ops ⟨dst, .unOp op t x, ty, pos, after, guard⟩ p) H V A = optW lo dst (un2 op (ev T lo V A x)) (W T lo nt pt rs Q n p H) V A := nr rfl
theorem pw_un {ops : Array Oper} {dst : Option Tmp} {ty : TypeId} {pos : String} {after : Array Edge} {l : List Oper} {z : Nat} {zs : List (Nat × Nat)} {M : List (Nat × TypeId × Value × AH)} {N : List (Nat × AH × AH)} {gu : Option (Nat × Bool)} {op : UnOp} {t : TypeId} {x : Operand} : W T lo nt pt rs Q (n + 1) (.opP ops ⟨dst, .unOp op t x, ty, pos, after, gu⟩ l z zs M N K) H V A = W T lo nt pt rs Q n (.op ops ⟨dst, .unOp op t x, ty, pos, after, gu⟩ (.opsP ops l (z + 1) zs M N K)) H V A := nr rfl
theorem w_conv {ops : Array Oper} {dst : Option Tmp} {ty : TypeId} {pos : String} {after : Array Edge} {guard : Option (Nat × Bool)} {p : Ph} {s d : TypeId} {x : Operand} : W T lo nt pt rs Q (n + 1) (.op ops ⟨dst, .convert s d x, ty, pos, after, guard⟩ p) H V A = optW lo dst (conv2 T s d (ev T lo V A x)) (W T lo nt pt rs Q n p H) V A := nr rfl
theorem pw_conv {ops : Array Oper} {dst : Option Tmp} {ty : TypeId} {pos : String} {after : Array Edge} {l : List Oper} {z : Nat} {zs : List (Nat × Nat)} {M : List (Nat × TypeId × Value × AH)} {N : List (Nat × AH × AH)} {gu : Option (Nat × Bool)} {s d : TypeId} {x : Operand} : W T lo nt pt rs Q (n + 1) (.opP ops ⟨dst, .convert s d x, ty, pos, after, gu⟩ l z zs M N K) H V A = W T lo nt pt rs Q n (.op ops ⟨dst, .convert s d x, ty, pos, after, gu⟩ (.opsP ops l (z + 1) zs M N K)) H V A := nr rfl
theorem w_func {ops : Array Oper} {dst : Option Tmp} {ty : TypeId} {pos : String} {after : Array Edge} {guard : Option (Nat × Bool)} {p : Ph} {f : FuncId} {first caps : Array Operand} : W T lo nt pt rs Q (n + 1) (.op ops ⟨dst, .makeFunc (.func f) first caps, ty, pos, after, guard⟩ p) H V A = optW lo dst (func2 f first (gvals (ev T lo V A) caps.toList)) (W T lo nt pt rs Q n p H) V A := nr rfl
theorem pw_func {ops : Array Oper} {dst : Option Tmp} {ty : TypeId} {pos : String} {after : Array Edge} {l : List Oper} {z : Nat} {zs : List (Nat × Nat)} {M : List (Nat × TypeId × Value × AH)} {N : List (Nat × AH × AH)} {gu : Option (Nat × Bool)} {f : FuncId} {first caps : Array Operand} : W T lo nt pt rs Q (n + 1) (.opP ops ⟨dst, .makeFunc (.func f) first caps, ty, pos, after, gu⟩ l z zs M N K) H V A = W T lo nt pt rs Q n (.op ops ⟨dst, .makeFunc (.func f) first caps, ty, pos, after, gu⟩ (.opsP ops l (z + 1) zs M N K)) H V A := nr rfl
theorem w_slice {ops : Array Oper} {dst : Option Tmp} {ty : TypeId} {pos : String} {after : Array Edge} {guard : Option (Nat × Bool)} {p : Ph} {t : TypeId} {x : Operand} {b e : Option Operand} : W T lo nt pt rs Q (n + 1) (.op ops ⟨dst, .slice t x b e none, ty, pos, after, guard⟩ p) H V A = optW lo dst (slice2 T t (ev T lo V A x) (gopt (ev T lo V A) b) (gopt (ev T lo V A) e)) (W T lo nt pt rs Q n p H) V A := nr rfl
theorem pw_slice {ops : Array Oper} {dst : Option Tmp} {ty : TypeId} {pos : String} {after : Array Edge} {l : List Oper} {z : Nat} {zs : List (Nat × Nat)} {M : List (Nat × TypeId × Value × AH)} {N : List (Nat × AH × AH)} {gu : Option (Nat × Bool)} {t : TypeId} {x : Operand} {b e : Option Operand} : W T lo nt pt rs Q (n + 1) (.opP ops ⟨dst, .slice t x b e none, ty, pos, after, gu⟩ l z zs M N K) H V A = W T lo nt pt rs Q n (.op ops ⟨dst, .slice t x b e none, ty, pos, after, gu⟩ (.opsP ops l (z + 1) zs M N K)) H V A := nr rfl
theorem w_faddr {ops : Array Oper} {dst : Option Tmp} {ty : TypeId} {pos : String} {after : Array Edge} {guard : Option (Nat × Bool)} {p : Ph} {t : TypeId} {x : Operand} {f : Nat} : W T lo nt pt rs Q (n + 1) (.op ops ⟨dst, .fieldAddr t x f, ty, pos, after, guard⟩ p) H V A = optW lo dst (faddr2 T t (ev T lo V A x) f) (W T lo nt pt rs Q n p H) V A := nr rfl
theorem pw_faddr {ops : Array Oper} {dst : Option Tmp} {ty : TypeId} {pos : String} {after : Array Edge} {l : List Oper} {z : Nat} {zs : List (Nat × Nat)} {M : List (Nat × TypeId × Value × AH)} {N : List (Nat × AH × AH)} {gu : Option (Nat × Bool)} {t : TypeId} {x : Operand} {f : Nat} : W T lo nt pt rs Q (n + 1) (.opP ops ⟨dst, .fieldAddr t x f, ty, pos, after, gu⟩ l z zs M N K) H V A = W T lo nt pt rs Q n (.op ops ⟨dst, .fieldAddr t x f, ty, pos, after, gu⟩ (.opsP ops l (z + 1) zs M N K)) H V A := nr rfl
theorem w_field {ops : Array Oper} {dst : Option Tmp} {ty : TypeId} {pos : String} {after : Array Edge} {guard : Option (Nat × Bool)} {p : Ph} {t : TypeId} {x : Operand} {f : Nat} : W T lo nt pt rs Q (n + 1) (.op ops ⟨dst, .field t x f, ty, pos, after, guard⟩ p) H V A = optW lo dst (field2 T t (ev T lo V A x) f) (W T lo nt pt rs Q n p H) V A := nr rfl
theorem pw_field {ops : Array Oper} {dst : Option Tmp} {ty : TypeId} {pos : String} {after : Array Edge} {l : List Oper} {z : Nat} {zs : List (Nat × Nat)} {M : List (Nat × TypeId × Value × AH)} {N : List (Nat × AH × AH)} {gu : Option (Nat × Bool)} {t : TypeId} {x : Operand} {f : Nat} : W T lo nt pt rs Q (n + 1) (.opP ops ⟨dst, .field t x f, ty, pos, after, gu⟩ l z zs M N K) H V A = W T lo nt pt rs Q n (.op ops ⟨dst, .field t x f, ty, pos, after, gu⟩ (.opsP ops l (z + 1) zs M N K)) H V A := nr rfl
theorem w_iaddr {ops : Array Oper} {dst : Option Tmp} {ty : TypeId} {pos : String} {after : Array Edge} {guard : Option (Nat × Bool)} {p : Ph} {t : TypeId} {x i : Operand} : W T lo nt pt rs Q (n + 1) (.op ops ⟨dst, .indexAddr t x i, ty, pos, after, guard⟩ p) H V A = optW lo dst (iaddr2 T t (ev T lo V A x) (ev T lo V A i)) (W T lo nt pt rs Q n p H) V A := nr rfl
theorem pw_iaddr {ops : Array Oper} {dst : Option Tmp} {ty : TypeId} {pos : String} {after : Array Edge} {l : List Oper} {z : Nat} {zs : List (Nat × Nat)} {M : List (Nat × TypeId × Value × AH)} {N : List (Nat × AH × AH)} {gu : Option (Nat × Bool)} {t : TypeId} {x i : Operand} : W T lo nt pt rs Q (n + 1) (.opP ops ⟨dst, .indexAddr t x i, ty, pos, after, gu⟩ l z zs M N K) H V A = W T lo nt pt rs Q n (.op ops ⟨dst, .indexAddr t x i, ty, pos, after, gu⟩ (.opsP ops l (z + 1) zs M N K)) H V A := nr rfl
theorem w_index {ops : Array Oper} {dst : Option Tmp} {ty : TypeId} {pos : String} {after : Array Edge} {guard : Option (Nat × Bool)} {p : Ph} {t : TypeId} {x i : Operand} : W T lo nt pt rs Q (n + 1) (.op ops ⟨dst, .index t x i, ty, pos, after, guard⟩ p) H V A = optW lo dst (index2 T t (ev T lo V A x) (ev T lo V A i)) (W T lo nt pt rs Q n p H) V A := nr rfl
theorem pw_index {ops : Array Oper} {dst : Option Tmp} {ty : TypeId} {pos : String} {after : Array Edge} {l : List Oper} {z : Nat} {zs : List (Nat × Nat)} {M : List (Nat × TypeId × Value × AH)} {N : List (Nat × AH × AH)} {gu : Option (Nat × Bool)} {t : TypeId} {x i : Operand} : W T lo nt pt rs Q (n + 1) (.opP ops ⟨dst, .index t x i, ty, pos, after, gu⟩ l z zs M N K) H V A = W T lo nt pt rs Q n (.op ops ⟨dst, .index t x i, ty, pos, after, gu⟩ (.opsP ops l (z + 1) zs M N K)) H V A := nr rfl
theorem w_extract {ops : Array Oper} {dst : Option Tmp} {ty : TypeId} {pos : String} {after : Array Edge} {guard : Option (Nat × Bool)} {p : Ph} {x : Operand} {i : Nat} : W T lo nt pt rs Q (n + 1) (.op ops ⟨dst, .extract x i, ty, pos, after, guard⟩ p) H V A = optW lo dst (extract2 (ev T lo V A x) i) (W T lo nt pt rs Q n p H) V A := nr rfl
theorem pw_extract {ops : Array Oper} {dst : Option Tmp} {ty : TypeId} {pos : String} {after : Array Edge} {l : List Oper} {z : Nat} {zs : List (Nat × Nat)} {M : List (Nat × TypeId × Value × AH)} {N : List (Nat × AH × AH)} {gu : Option (Nat × Bool)} {x : Operand} {i : Nat} : W T lo nt pt rs Q (n + 1) (.opP ops ⟨dst, .extract x i, ty, pos, after, gu⟩ l z zs M N K) H V A = W T lo nt pt rs Q n (.op ops ⟨dst, .extract x i, ty, pos, after, gu⟩ (.opsP ops l (z + 1) zs M N K)) H V A := nr rfl
theorem w_load {ops : Array Oper} {dst : Option Tmp} {ty : TypeId} {pos : String} {after : Array Edge} {guard : Option (Nat × Bool)} {p : Ph} {t : TypeId} {x : Operand} : W T lo nt pt rs Q (n + 1) (.op ops ⟨dst, .load t x, ty, pos, after, guard⟩ p) H V A = optW lo dst (load2 T t (ev T lo V A x) H.get) (W T lo nt pt rs Q n p H) V A := nr rfl
theorem w_alloc {ops : Array Oper} {dst : Option Tmp} {ty : TypeId} {pos : String} {after : Array Edge} {guard : Option (Nat × Bool)} {p : Ph} {t : TypeId} : W T lo nt pt rs Q (n + 1) (.op ops ⟨dst, .alloc t, ty, pos, after, guard⟩ p) H V A = optHW lo dst (alloc2 T t H) (W T lo nt pt rs Q n p) V A := nr rfl
theorem pw_alloc {ops : Array Oper} {dst : Option Tmp} {ty : TypeId} {pos : String} {after : Array Edge} {l : List Oper} {z : Nat} {zs : List (Nat × Nat)} {M : List (Nat × TypeId × Value × AH)} {N : List (Nat × AH × AH)} {gu : Option (Nat × Bool)} {t : TypeId} : W T lo nt pt rs Q (n + 1) (.opP ops ⟨dst, .alloc t, ty, pos, after, gu⟩ l z zs M N K) H V A = W T lo nt pt rs Q n (.op ops ⟨dst, .alloc t, ty, pos, after, gu⟩ (.opsP ops l (z + 1) zs M N K)) H V A := nr rfl
theorem w_box {ops : Array Oper} {dst : Option Tmp} {ty : TypeId} {pos : String} {after : Array Edge} {guard : Option (Nat × Bool)} {p : Ph} {t : TypeId} {x : Operand} : W T lo nt pt rs Q (n + 1) (.op ops ⟨dst, .box t x, ty, pos, after, guard⟩ p) H V A = optHW lo dst (box2 (ev T lo V A x) H) (W T lo nt pt rs Q n p) V A := nr rfl
theorem pw_box {ops : Array Oper} {dst : Option Tmp} {ty : TypeId} {pos : String} {after : Array Edge} {l : List Oper} {z : Nat} {zs : List (Nat × Nat)} {M : List (Nat × TypeId × Value × AH)} {N : List (Nat × AH × AH)} {gu : Option (Nat × Bool)} {t : TypeId} {x : Operand} : W T lo nt pt rs Q (n + 1) (.opP ops ⟨dst, .box t x, ty, pos, after, gu⟩ l z zs M N K) H V A = W T lo nt pt rs Q n (.op ops ⟨dst, .box t x, ty, pos, after, gu⟩ (.opsP ops l (z + 1) zs M N K)) H V A := nr rfl
theorem w_bslice {ops : Array Oper} {dst : Option Tmp} {ty : TypeId} {pos : String} {after : Array Edge} {guard : Option (Nat × Bool)} {p : Ph} {t : TypeId} {k : Nat} {ps : Array (Nat × Operand)} : W T lo nt pt rs Q (n + 1) (.op ops ⟨dst, .buildSlice t k ps, ty, pos, after, guard⟩ p) H V A = optHW lo dst (bslice2 T t k (gparts (ev T lo V A) ps.toList) H) (W T lo nt pt rs Q n p) V A := nr rfl
theorem pw_bslice {ops : Array Oper} {dst : Option Tmp} {ty : TypeId} {pos : String} {after : Array Edge} {l : List Oper} {z : Nat} {zs : List (Nat × Nat)} {M : List (Nat × TypeId × Value × AH)} {N : List (Nat × AH × AH)} {gu : Option (Nat × Bool)} {t : TypeId} {k : Nat} {ps : Array (Nat × Operand)} : W T lo nt pt rs Q (n + 1) (.opP ops ⟨dst, .buildSlice t k ps, ty, pos, after, gu⟩ l z zs M N K) H V A = W T lo nt pt rs Q n (.op ops ⟨dst, .buildSlice t k ps, ty, pos, after, gu⟩ (.opsP ops l (z + 1) zs M N K)) H V A := nr rfl
theorem w_mslice {ops : Array Oper} {dst : Option Tmp} {ty : TypeId} {pos : String} {after : Array Edge} {guard : Option (Nat × Bool)} {p : Ph} {t : TypeId} {x y : Operand} : W T lo nt pt rs Q (n + 1) (.op ops ⟨dst, .makeSlice t x y, ty, pos, after, guard⟩ p) H V A = optHW lo dst (mslice2 T t (ev T lo V A x) (ev T lo V A y) H) (W T lo nt pt rs Q n p) V A := nr rfl
theorem pw_mslice {ops : Array Oper} {dst : Option Tmp} {ty : TypeId} {pos : String} {after : Array Edge} {l : List Oper} {z : Nat} {zs : List (Nat × Nat)} {M : List (Nat × TypeId × Value × AH)} {N : List (Nat × AH × AH)} {gu : Option (Nat × Bool)} {t : TypeId} {x y : Operand} : W T lo nt pt rs Q (n + 1) (.opP ops ⟨dst, .makeSlice t x y, ty, pos, after, gu⟩ l z zs M N K) H V A = W T lo nt pt rs Q n (.op ops ⟨dst, .makeSlice t x y, ty, pos, after, gu⟩ (.opsP ops l (z + 1) zs M N K)) H V A := nr rfl
theorem w_store {ops : Array Oper} {dst : Option Tmp} {ty : TypeId} {pos : String} {after : Array Edge} {guard : Option (Nat × Bool)} {p : Ph} {t : TypeId} {x y : Operand} : W T lo nt pt rs Q (n + 1) (.op ops ⟨dst, .store t x y, ty, pos, after, guard⟩ p) H V A = optHW lo dst (store2 T t (ev T lo V A x) (ev T lo V A y) H) (W T lo nt pt rs Q n p) V A := nr rfl
theorem pw_store {ops : Array Oper} {dst : Option Tmp} {ty : TypeId} {pos : String} {after : Array Edge} {l : List Oper} {z : Nat} {zs : List (Nat × Nat)} {M : List (Nat × TypeId × Value × AH)} {N : List (Nat × AH × AH)} {gu : Option (Nat × Bool)} {t : TypeId} {x y : Operand} : W T lo nt pt rs Q (n + 1) (.opP ops ⟨dst, .store t x y, ty, pos, after, gu⟩ l z zs M N K) H V A = (allM T M z H ∧ W T lo nt pt rs Q n (.op ops ⟨dst, .store t x y, ty, pos, after, gu⟩ (.aftP ops l z zs M N K H)) H V A) := nr rfl
theorem w_len {ops : Array Oper} {dst : Option Tmp} {ty : TypeId} {pos : String} {after : Array Edge} {guard : Option (Nat × Bool)} {p : Ph} {args : Array Operand} {argTypes : Array TypeId} : W T lo nt pt rs Q (n + 1) (.op ops ⟨dst, .call ⟨.builtin .len, args, argTypes⟩, ty, pos, after, guard⟩ p) H V A = optW lo dst (pureB2 T .len argTypes.toList (gvals (ev T lo V A) args.toList)) (W T lo nt pt rs Q n p H) V A := nr rfl
theorem pw_len {ops : Array Oper} {dst : Option Tmp} {ty : TypeId} {pos : String} {after : Array Edge} {l : List Oper} {z : Nat} {zs : List (Nat × Nat)} {M : List (Nat × TypeId × Value × AH)} {N : List (Nat × AH × AH)} {gu : Option (Nat × Bool)} {args : Array Operand} {argTypes : Array TypeId} : W T lo nt pt rs Q (n + 1) (.opP ops ⟨dst, .call ⟨.builtin .len, args, argTypes⟩, ty, pos, after, gu⟩ l z zs M N K) H V A = W T lo nt pt rs Q n (.op ops ⟨dst, .call ⟨.builtin .len, args, argTypes⟩, ty, pos, after, gu⟩ (.opsP ops l (z + 1) zs M N K)) H V A := nr rfl
theorem w_max {ops : Array Oper} {dst : Option Tmp} {ty : TypeId} {pos : String} {after : Array Edge} {guard : Option (Nat × Bool)} {p : Ph} {args : Array Operand} {argTypes : Array TypeId} : W T lo nt pt rs Q (n + 1) (.op ops ⟨dst, .call ⟨.builtin .max, args, argTypes⟩, ty, pos, after, guard⟩ p) H V A = optW lo dst (pureB2 T .max argTypes.toList (gvals (ev T lo V A) args.toList)) (W T lo nt pt rs Q n p H) V A := nr rfl
theorem pw_max {ops : Array Oper} {dst : Option Tmp} {ty : TypeId} {pos : String} {after : Array Edge} {l : List Oper} {z : Nat} {zs : List (Nat × Nat)} {M : List (Nat × TypeId × Value × AH)} {N : List (Nat × AH × AH)} {gu : Option (Nat × Bool)} {args : Array Operand} {argTypes : Array TypeId} : W T lo nt pt rs Q (n + 1) (.opP ops ⟨dst, .call ⟨.builtin .max, args, argTypes⟩, ty, pos, after, gu⟩ l z zs M N K) H V A = W T lo nt pt rs Q n (.op ops ⟨dst, .call ⟨.builtin .max, args, argTypes⟩, ty, pos, after, gu⟩ (.opsP ops l (z + 1) zs M N K)) H V A := nr rfl
theorem w_min {ops : Array Oper} {dst : Option Tmp} {ty : TypeId} {pos : String} {after : Array Edge} {guard : Option (Nat × Bool)} {p : Ph} {args : Array Operand} {argTypes : Array TypeId} : W T lo nt pt rs Q (n + 1) (.op ops ⟨dst, .call ⟨.builtin .min, args, argTypes⟩, ty, pos, after, guard⟩ p) H V A = optW lo dst (pureB2 T .min argTypes.toList (gvals (ev T lo V A) args.toList)) (W T lo nt pt rs Q n p H) V A := nr rfl
theorem pw_min {ops : Array Oper} {dst : Option Tmp} {ty : TypeId} {pos : String} {after : Array Edge} {l : List Oper} {z : Nat} {zs : List (Nat × Nat)} {M : List (Nat × TypeId × Value × AH)} {N : List (Nat × AH × AH)} {gu : Option (Nat × Bool)} {args : Array Operand} {argTypes : Array TypeId} : W T lo nt pt rs Q (n + 1) (.opP ops ⟨dst, .call ⟨.builtin .min, args, argTypes⟩, ty, pos, after, gu⟩ l z zs M N K) H V A = W T lo nt pt rs Q n (.op ops ⟨dst, .call ⟨.builtin .min, args, argTypes⟩, ty, pos, after, gu⟩ (.opsP ops l (z + 1) zs M N K)) H V A := nr rfl
theorem w_append {ops : Array Oper} {dst : Option Tmp} {ty : TypeId} {pos : String} {after : Array Edge} {guard : Option (Nat × Bool)} {p : Ph} {args : Array Operand} {argTypes : Array TypeId} : W T lo nt pt rs Q (n + 1) (.op ops ⟨dst, .call ⟨.builtin .append, args, argTypes⟩, ty, pos, after, guard⟩ p) H V A = optHW lo dst (effB2 T .append argTypes.toList (gvals (ev T lo V A) args.toList) H) (W T lo nt pt rs Q n p) V A := nr rfl
theorem pw_append {ops : Array Oper} {dst : Option Tmp} {ty : TypeId} {pos : String} {after : Array Edge} {l : List Oper} {z : Nat} {zs : List (Nat × Nat)} {M : List (Nat × TypeId × Value × AH)} {N : List (Nat × AH × AH)} {gu : Option (Nat × Bool)} {args : Array Operand} {argTypes : Array TypeId} : W T lo nt pt rs Q (n + 1) (.opP ops ⟨dst, .call ⟨.builtin .append, args, argTypes⟩, ty, pos, after, gu⟩ l z zs M N K) H V A = (allM T M z H ∧ W T lo nt pt rs Q n (.op ops ⟨dst, .call ⟨.builtin .append, args, argTypes⟩, ty, pos, after, gu⟩ (.aftP ops l z zs M N K H)) H V A) := nr rfl
theorem w_copy {ops : Array Oper} {dst : Option Tmp} {ty : TypeId} {pos : String} {after : Array Edge} {guard : Option (Nat × Bool)} {p : Ph} {args : Array Operand} {argTypes : Array TypeId} : W T lo nt pt rs Q (n + 1) (.op ops ⟨dst, .call ⟨.builtin .copy, args, argTypes⟩, ty, pos, after, guard⟩ p) H V A = optHW lo dst (effB2 T .copy argTypes.toList (gvals (ev T lo V A) args.toList) H) (W T lo nt pt rs Q n p) V A := nr rfl
theorem pw_copy {ops : Array Oper} {dst : Option Tmp} {ty : TypeId} {pos : String} {after : Array Edge} {l : List Oper} {z : Nat} {zs : List (Nat × Nat)} {M : List (Nat × TypeId × Value × AH)} {N : List (Nat × AH × AH)} {gu : Option (Nat × Bool)} {args : Array Operand} {argTypes : Array TypeId} : W T lo nt pt rs Q (n + 1) (.opP ops ⟨dst, .call ⟨.builtin .copy, args, argTypes⟩, ty, pos, after, gu⟩ l z zs M N K) H V A = (allM T M z H ∧ W T lo nt pt rs Q n (.op ops ⟨dst, .call ⟨.builtin .copy, args, argTypes⟩, ty, pos, after, gu⟩ (.aftP ops l z zs M N K H)) H V A) := nr rfl
theorem w_clear {ops : Array Oper} {dst : Option Tmp} {ty : TypeId} {pos : String} {after : Array Edge} {guard : Option (Nat × Bool)} {p : Ph} {args : Array Operand} {argTypes : Array TypeId} : W T lo nt pt rs Q (n + 1) (.op ops ⟨dst, .call ⟨.builtin .clear, args, argTypes⟩, ty, pos, after, guard⟩ p) H V A = optHW lo dst (effB2 T .clear argTypes.toList (gvals (ev T lo V A) args.toList) H) (W T lo nt pt rs Q n p) V A := nr rfl
theorem pw_clear {ops : Array Oper} {dst : Option Tmp} {ty : TypeId} {pos : String} {after : Array Edge} {l : List Oper} {z : Nat} {zs : List (Nat × Nat)} {M : List (Nat × TypeId × Value × AH)} {N : List (Nat × AH × AH)} {gu : Option (Nat × Bool)} {args : Array Operand} {argTypes : Array TypeId} : W T lo nt pt rs Q (n + 1) (.opP ops ⟨dst, .call ⟨.builtin .clear, args, argTypes⟩, ty, pos, after, gu⟩ l z zs M N K) H V A = (allM T M z H ∧ W T lo nt pt rs Q n (.op ops ⟨dst, .call ⟨.builtin .clear, args, argTypes⟩, ty, pos, after, gu⟩ (.aftP ops l z zs M N K H)) H V A) := nr rfl
theorem w_call {ops : Array Oper} {dst : Option Tmp} {ty : TypeId} {pos : String} {after : Array Edge} {guard : Option (Nat × Bool)} {p : Ph} {args : Array Operand} {argTypes : Array TypeId} {f : Operand} : W T lo nt pt rs Q (n + 1) (.op ops ⟨dst, .call ⟨.value f, args, argTypes⟩, ty, pos, after, guard⟩ p) H V A = callW T lo dst (callee2 (ev T lo V A f) (gvals (ev T lo V A) args.toList)) H (W T lo nt pt rs Q n p) V A := nr rfl
theorem pw_call {ops : Array Oper} {dst : Option Tmp} {ty : TypeId} {pos : String} {after : Array Edge} {l : List Oper} {z : Nat} {zs : List (Nat × Nat)} {M : List (Nat × TypeId × Value × AH)} {N : List (Nat × AH × AH)} {gu : Option (Nat × Bool)} {args : Array Operand} {argTypes : Array TypeId} {f : Operand} : W T lo nt pt rs Q (n + 1) (.opP ops ⟨dst, .call ⟨.value f, args, argTypes⟩, ty, pos, after, gu⟩ l z zs M N K) H V A = (allM T M z H ∧ W T lo nt pt rs Q n (.op ops ⟨dst, .call ⟨.value f, args, argTypes⟩, ty, pos, after, gu⟩ (.aftP ops l z zs M N K H)) H V A) := nr rfl
end
attribute [go_sem ↓] w_skip w_region w_regionD w_seq w_cond w_block w_loop w_exit w_ret w_label w_end w_endr w_ucn w_uce w_ucr w_ubn w_ube w_ubr w_uln w_ule w_ulr w_opsn w_opsc w_pn w_pc w_pg w_pl w_pa w_opsg w_move pw_move w_assign pw_assign w_pick pw_pick w_build pw_build w_nil pw_nil w_bin pw_bin w_un pw_un w_conv pw_conv w_func pw_func w_slice pw_slice w_faddr pw_faddr w_field pw_field w_iaddr pw_iaddr w_index pw_index w_extract pw_extract w_load w_alloc pw_alloc w_box pw_box w_bslice pw_bslice w_mslice pw_mslice w_store pw_store w_len pw_len w_max pw_max w_min pw_min w_append pw_append w_copy pw_copy w_clear pw_clear w_call pw_call

section
variable {T : Tab} {lo : List Nat} {V : List Value} {A : List (Nat × Value)}
theorem v_tmp {t : Nat} : ev T lo V A (.tmp t) = look lo V A t := nr rfl
theorem v_int {k : IntKind} {i : Int} : ev T lo V A (.const (.int k i)) = some (.int k i) := nr rfl
theorem v_bool {b : Bool} : ev T lo V A (.const (.bool b)) = some (.bool b) := nr rfl
theorem v_str {b : ByteArray} : ev T lo V A (.const (.string b)) = some (.string b) := nr rfl
theorem v_ptr : ev T lo V A (.const (.pointer none)) = some (.pointer none) := nr rfl
theorem v_snil : ev T lo V A (.const (.slice none 0 0)) = some (.slice none 0 0) := nr rfl
theorem v_nilf : ev T lo V A (.const .nilFunc) = some .nilFunc := nr rfl
theorem v_nili : ev T lo V A (.const .nilIface) = some .nilIface := nr rfl
theorem v_agg {l : List Value} : ev T lo V A (.const (.agg l.toArray)) = if l.all closedS then some (.agg l.toArray) else none := by simp [ev, closedA]
theorem cs_int {k : IntKind} {i : Int} : closedS (.int k i) = true := nr rfl
theorem cs_bool {b : Bool} : closedS (.bool b) = true := nr rfl
theorem cs_string {b : ByteArray} : closedS (.string b) = true := nr rfl
theorem cs_pointer : closedS (.pointer none) = true := nr rfl
theorem cs_slice : closedS (.slice none 0 0) = true := nr rfl
theorem cs_nilFunc : closedS (.nilFunc) = true := nr rfl
theorem cs_nilIface : closedS (.nilIface) = true := nr rfl
theorem v_func {f : FuncId} : ev T lo V A (.func f) = some (.func (.func f) #[] #[]) := nr rfl
theorem v_glob {f : Nat} : ev T lo V A (.global f) = if T.glob f then some (.pointer (some ⟨f, 0, none⟩)) else none := nr rfl
theorem l_look {t k : Nat} {v : Value} : look (k :: lo) (v :: V) A t = if k = t then some v else look lo V A t := nr rfl
theorem l_look0 {t : Nat} : look [] [] A t = assoc A t := nr rfl
theorem l_has {t k : Nat} : hasK (k :: lo) t = if k = t then true else hasK lo t := nr rfl
theorem l_has0 {t : Nat} : hasK [] t = false := nr rfl
theorem l_nth0 {v : Value} : nth (v :: V) 0 = some v := nr rfl
theorem l_nths {v : Value} {k : Nat} : nth (v :: V) (k + 1) = nth V k := nr rfl
theorem l_set {v x : Value} {k t : Nat} : setK (k :: lo) (v :: V) t x = if k = t then x :: V else v :: setK lo V t x := nr rfl
theorem l_assoc {v : Value} {t k : Nat} : assoc ((t, v) :: A) k = if t = k then some v else assoc A k := nr rfl
theorem l_dst0 {d : Option Tmp} {op : Op} {ty : TypeId} {pos : String} {after : Array Edge} {gu : Option (Nat × Bool)} {l : List Oper} : dstAt (⟨d, op, ty, pos, after, gu⟩ :: l) 0 = d := nr rfl
theorem l_dsts {o : Oper} {k : Nat} {l : List Oper} : dstAt (o :: l) (k + 1) = dstAt l k := nr rfl
def gcons (v : Option Value) (vs : Option (List Value)) : Option (List Value) :=
  match v with
  | none => none
  | some v => match vs with
    | none => none
    | some vs => some (v :: vs)
def gpcons (i : Nat) (v : Option Value) (vs : Option (List (Nat × Value))) : Option (List (Nat × Value)) :=
  match v with
  | none => none
  | some v => if isA v then (match vs with
    | none => none
    | some vs => some ((i, v) :: vs)) else none
def gsome (v : Option Value) : Option (Option Value) :=
  match v with
  | some v => some (some v)
  | none => none
theorem g_nil {g : Ev} : gvals g [] = some [] := nr rfl
theorem g_cons {g : Ev} {x : Operand} {xs : List Operand} : gvals g (x :: xs) = gcons (g x) (gvals g xs) := nr rfl
theorem g_cons2 {v : Value} {vs : List Value} : gcons (some v) (some vs) = some (v :: vs) := nr rfl
theorem g_pnil {g : Ev} : gparts g [] = some [] := nr rfl
theorem g_pcons {g : Ev} {i : Nat} {x : Operand} {xs : List (Nat × Operand)} : gparts g ((i, x) :: xs) = gpcons i (g x) (gparts g xs) := nr rfl
theorem g_pcons2 {i : Nat} {v : Value} {vs : List (Nat × Value)} : gpcons i (some v) (some vs) = if isA v then some ((i, v) :: vs) else none := nr rfl
theorem g_onone {g : Ev} : gopt g none = some none := nr rfl
theorem g_osome {g : Ev} {x : Operand} : gopt g (some x) = gsome (g x) := nr rfl
theorem g_some {v : Value} : gsome (some v) = some (some v) := nr rfl
theorem isA_int {k : IntKind} {i : Int} : isA (.int k i) = true := nr rfl
theorem isA_bool {b : Bool} : isA (.bool b) = true := nr rfl
theorem isA_str {b : ByteArray} : isA (.string b) = true := nr rfl
theorem isA_ptr {p : Option Addr} : isA (.pointer p) = true := nr rfl
theorem isA_slice {p : Option Addr} {n m : Nat} : isA (.slice p n m) = true := nr rfl
theorem isA_agg {c : Array Value} : isA (.agg c) = true := nr rfl
theorem isA_nilf : isA (.nilFunc) = true := nr rfl
theorem isA_nili : isA (.nilIface) = true := nr rfl
theorem isA_fn {f : Fn} {a b : Array Value} : isA (.func f a b) = true := nr rfl
theorem cells_int {k : IntKind} {i : Int} : Value.cells (.int k i) = #[.int k i] := nr rfl
theorem cells_bool {b : Bool} : Value.cells (.bool b) = #[.bool b] := nr rfl
theorem cells_str {b : ByteArray} : Value.cells (.string b) = #[.string b] := nr rfl
theorem cells_ptr {p : Option Addr} : Value.cells (.pointer p) = #[.pointer p] := nr rfl
theorem cells_slice {p : Option Addr} {n m : Nat} : Value.cells (.slice p n m) = #[.slice p n m] := nr rfl
theorem cells_nilf : Value.cells (.nilFunc) = #[.nilFunc] := nr rfl
theorem cells_nili : Value.cells (.nilIface) = #[.nilIface] := nr rfl
theorem cells_fn {f : Fn} {a b : Array Value} : Value.cells (.func f a b) = #[.func f a b] := nr rfl
theorem cells_agg {c : Array Value} : Value.cells (.agg c) = c := nr rfl
theorem isPtr_int {k : IntKind} {i : Int} : isPtr (.int k i) = false := nr rfl
theorem isPtr_bool {b : Bool} : isPtr (.bool b) = false := nr rfl
theorem isPtr_str {b : ByteArray} : isPtr (.string b) = false := nr rfl
theorem isPtr_ptr {p : Option Addr} : isPtr (.pointer p) = true := nr rfl
theorem isPtr_slice {p : Option Addr} {n m : Nat} : isPtr (.slice p n m) = false := nr rfl
theorem isPtr_agg {c : Array Value} : isPtr (.agg c) = false := nr rfl
theorem isPtr_nilf : isPtr (.nilFunc) = false := nr rfl
theorem isPtr_nili : isPtr (.nilIface) = false := nr rfl
theorem isPtr_fn {f : Fn} {a b : Array Value} : isPtr (.func f a b) = false := nr rfl
theorem o_pickt {u v : Value} : pick2 (some (.bool true)) (some u) (some v) = some u := nr rfl
theorem o_pickf {u v : Value} : pick2 (some (.bool false)) (some u) (some v) = some v := nr rfl
theorem o_build {t : TypeId} {vs : List (Nat × Value)} : build2 T t (some vs) = abuild T t vs := nr rfl
theorem o_nil {p : Addr} : nil2 (some (.pointer (some p))) = some (.pointer (some p)) := nr rfl
theorem o_bin {op : BinOp} {t : TypeId} {u v : Value} : bin2 T op t (some u) (some v) = abin T op t u v := nr rfl
theorem o_un {op : UnOp} {u : Value} : un2 op (some u) = aun op u := nr rfl
theorem o_conv {s d : TypeId} {u : Value} : conv2 T s d (some u) = aconvert T s d u := nr rfl
theorem o_func {f : FuncId} {first : Array Operand} {vs : List Value} : func2 f first (some vs) = if first.size = 0 ∧ vs.all isPtr = true then some (.func (.func f) #[] vs.toArray) else none := nr rfl
theorem o_slice {t : TypeId} {u : Value} {l h : Option Value} : slice2 T t (some u) (some l) (some h) = aslice T t u l h := nr rfl
theorem o_faddr {t : TypeId} {u : Value} {f : Nat} : faddr2 T t (some u) f = afield T t u f := nr rfl
theorem o_field {t : TypeId} {u : Value} {f : Nat} : field2 T t (some u) f = apick T t u f := nr rfl
theorem o_iaddr {t : TypeId} {u v : Value} : iaddr2 T t (some u) (some v) = aindex T t u v := nr rfl
theorem o_extract {u : Value} {i : Nat} : extract2 (some u) i = aextract u i := nr rfl
theorem o_pureB {b : Builtin} {tys : List TypeId} {vs : List Value} : pureB2 T b tys (some vs) = apureB T b tys vs := nr rfl
theorem o_load {t : TypeId} {u : Value} {G : Nat → Option Blk} : load2 T t (some u) G = aload T t u G := nr rfl
theorem o_box {u : Value} {H : AH} : box2 (some u) H = if isA u then some (.pointer (some ⟨H.size, 0, none⟩), H.push u.cells.toList) else none := by simp only [box2, abox]; split <;> rfl
theorem o_bslice {t : TypeId} {k : Nat} {vs : List (Nat × Value)} {H : AH} : bslice2 T t k (some vs) H = anew H (abuildSlice T t k vs H.size) := nr rfl
theorem o_mslice {t : TypeId} {u v : Value} {H : AH} : mslice2 T t (some u) (some v) H = anew H (amake T t u v H.size) := nr rfl
theorem o_anew {v : Value} {xs : List Value} {H : AH} : anew H (some (v, xs)) = some (v, H.push xs) := nr rfl
theorem o_alloc {t : TypeId} {H : AH} : alloc2 T t H = anew H (aalloc T t H.size) := nr rfl
def stored (o : Option AH) : Option (Value × AH) :=
  match o with
  | some H => some (undef, H)
  | none => none
theorem o_store {t : TypeId} {u v : Value} {H : AH} : store2 T t (some u) (some v) H = stored (astore T t u v H) := nr rfl
theorem o_stored {H : AH} : stored (some H) = some (undef, H) := nr rfl
theorem o_effB {b : Builtin} {tys : List TypeId} {vs : List Value} {H : AH} : effB2 T b tys (some vs) H = aeffB T b tys vs H := nr rfl
theorem o_append {t0 t1 : TypeId} {s x : Value} {H : AH} : aeffB T .append [t0, t1] [s, x] H = aappend T t0 t1 s x H := nr rfl
theorem o_copy {t0 t1 : TypeId} {s x : Value} {H : AH} : aeffB T .copy [t0, t1] [s, x] H = acopy T t0 s x H := nr rfl
theorem o_clear {t0 : TypeId} {s : Value} {H : AH} : aeffB T .clear [t0] [s] H = aclear T t0 s H := nr rfl
theorem o_callee {f : FuncId} {first caps : Array Value} {vs : List Value} : callee2 (some (.func (.func f) first caps)) (some vs) = if first.size = 0 then some (f, vs ++ caps.toList) else none := nr rfl
theorem p_put {F : Kont} : putV F V A = F V A := nr rfl
theorem p_none {v : Value} {F : Kont} : putW lo none v F V A = F V A := nr rfl
theorem p_some {d : Nat} {v : Value} {F : Kont} : putW lo (some d) v F V A = if hasK lo d = true then putV F (setK lo V d v) A else putV F V ((d, v) :: A) := nr rfl
theorem p_opt {dst : Option Nat} {v : Value} {F : Kont} : optW lo dst (some v) F V A = putW lo dst v F V A := nr rfl
theorem p_optif {c : Prop} [Decidable c] {dst : Option Nat} {o : Option Value} {F : Kont} : optW lo dst (if c then o else none) F V A = (c ∧ optW lo dst o F V A) := by by_cases h : c <;> simp [h, optW]
theorem p_optH {dst : Option Nat} {v : Value} {H : AH} {F : AH → Kont} : optHW lo dst (some (v, H)) F V A = putW lo dst v (F H) V A := nr rfl
theorem p_optHif {c : Prop} [Decidable c] {dst : Option Nat} {o : Option (Value × AH)} {F : AH → Kont} : optHW lo dst (if c then o else none) F V A = (c ∧ optHW lo dst o F V A) := by by_cases h : c <;> simp [h, optHW]
theorem p_condt {F G : List (Nat × Value) → Prop} : condW (some (.bool true)) F G = F [] := by simp [condW]
theorem p_condf {F G : List (Nat × Value) → Prop} : condW (some (.bool false)) F G = G [] := by simp [condW]
/-- Two ways to go on. -/
def Split (p : Prop) (F G : List (Nat × Value) → Prop) : Prop := (p → F []) ∧ (¬ p → G [])
theorem Split.mk {p : Prop} {F G : List (Nat × Value) → Prop} (h : p → F []) (k : ¬ p → G []) : Split p F G := ⟨h, k⟩
/-- Two ways to go on within a region: what a guard is, is laid down. -/
def SplitG (lo : List Nat) (p : Prop) (d : Nat) (b : Bool) (F G : Kont) (V : List Value) (A : List (Nat × Value)) : Prop := (p → layW lo d (.bool b) F V A) ∧ (¬ p → layW lo d (.bool (!b)) G V A)
theorem SplitG.mk {d : Nat} {b : Bool} {p : Prop} {F G : Kont} (h : p → layW lo d (.bool b) F V A) (k : ¬ p → layW lo d (.bool (!b)) G V A) : SplitG lo p d b F G V A := ⟨h, k⟩
theorem p_cdt {p : Prop} [Decidable p] {F G : List (Nat × Value) → Prop} (h : p) : condW (some (.bool (decide p))) F G = F [] := by simp [condW, h]
theorem p_cdf {p : Prop} [Decidable p] {F G : List (Nat × Value) → Prop} (h : ¬ p) : condW (some (.bool (decide p))) F G = G [] := by simp [condW, h]
theorem p_cndt {p : Prop} [Decidable p] {F G : List (Nat × Value) → Prop} (h : p) : condW (some (.bool (!decide p))) F G = G [] := by simp [condW, h]
theorem p_cndf {p : Prop} [Decidable p] {F G : List (Nat × Value) → Prop} (h : ¬ p) : condW (some (.bool (!decide p))) F G = F [] := by simp [condW, h]
theorem p_cndd {p : Prop} [Decidable p] {F G : List (Nat × Value) → Prop} : condW (some (.bool (!decide p))) F G = Split (¬ p) F G := by by_cases h : p <;> simp [condW, Split, h]
theorem p_condd {p : Prop} [Decidable p] {F G : List (Nat × Value) → Prop} : condW (some (.bool (decide p))) F G = Split p F G := by simp [condW, Split]
theorem p_condn {b : Bool} {F G : List (Nat × Value) → Prop} : condW (some (.bool (!b))) F G = Split (b = false) F G := by cases b <;> simp [condW, Split]
theorem p_cond {b : Bool} {F G : List (Nat × Value) → Prop} : condW (some (.bool b)) F G = Split (b = true) F G := by cases b <;> simp [condW, Split]
theorem p_gat {d : Nat} {b : Bool} {F G : Kont} : guardAt lo (some d) b F G V A = guardW lo d (look lo V A d) b F G V A := nr rfl
theorem p_gtt {d : Nat} {F G : Kont} : guardW lo d (some (.bool true)) true F G V A = layW lo d (.bool true) F V A := by simp [guardW]
theorem p_gtf {d : Nat} {F G : Kont} : guardW lo d (some (.bool true)) false F G V A = layW lo d (.bool true) G V A := by simp [guardW]
theorem p_gft {d : Nat} {F G : Kont} : guardW lo d (some (.bool false)) true F G V A = layW lo d (.bool false) G V A := by simp [guardW]
theorem p_gff {d : Nat} {F G : Kont} : guardW lo d (some (.bool false)) false F G V A = layW lo d (.bool false) F V A := by simp [guardW]
theorem p_gut {d : Nat} {F G : Kont} : guardW lo d (some undef) true F G V A = putV G V A := nr rfl
theorem p_guf {d : Nat} {F G : Kont} : guardW lo d (some undef) false F G V A = putV G V A := nr rfl
theorem p_lay {d : Nat} {v : Value} {F : Kont} : layW lo d v F V A = if hasK lo d = true then putV F (setK lo V d v) A else putV F V (repA A d v) := nr rfl
theorem p_rep0 {d : Nat} {v : Value} : repA [] d v = [(d, v)] := nr rfl
theorem p_rep {t d : Nat} {w v : Value} : repA ((t, w) :: A) d v = if t = d then (d, v) :: A else (t, w) :: repA A d v := nr rfl
theorem p_gtty {d : Nat} {p : Prop} [Decidable p] {F G : Kont} (h : p) : guardW lo d (some (.bool (decide p))) true F G V A = layW lo d (.bool true) F V A := by simp [guardW, h]
theorem p_gttn {d : Nat} {p : Prop} [Decidable p] {F G : Kont} (h : ¬ p) : guardW lo d (some (.bool (decide p))) true F G V A = layW lo d (.bool false) G V A := by simp [guardW, h]
theorem p_gdt {d : Nat} {p : Prop} [Decidable p] {F G : Kont} : guardW lo d (some (.bool (decide p))) true F G V A = SplitG lo p d true F G V A := by by_cases h : p <;> simp [guardW, SplitG, h]
theorem p_gvt {d : Nat} {c : Bool} {F G : Kont} : guardW lo d (some (.bool c)) true F G V A = SplitG lo (c = true) d true F G V A := by cases c <;> simp [guardW, SplitG]
theorem p_gtfy {d : Nat} {p : Prop} [Decidable p] {F G : Kont} (h : ¬ p) : guardW lo d (some (.bool (decide p))) false F G V A = layW lo d (.bool false) F V A := by simp [guardW, h]
theorem p_gtfn {d : Nat} {p : Prop} [Decidable p] {F G : Kont} (h : p) : guardW lo d (some (.bool (decide p))) false F G V A = layW lo d (.bool true) G V A := by simp [guardW, h]
theorem p_gdf {d : Nat} {p : Prop} [Decidable p] {F G : Kont} : guardW lo d (some (.bool (decide p))) false F G V A = SplitG lo p d true G F V A := by by_cases h : p <;> simp [guardW, SplitG, h]
theorem p_gvf {d : Nat} {c : Bool} {F G : Kont} : guardW lo d (some (.bool c)) false F G V A = SplitG lo (c = false) d false F G V A := by cases c <;> simp [guardW, SplitG]
theorem p_call {dst : Option Nat} {f : FuncId} {vs : List Value} {H : AH} {F : AH → Kont} : callW T lo dst (if 0 = 0 then some (f, vs) else none) H F V A = callW T lo dst (some (f, vs)) H F V A := by simp
theorem r_nil {H : AH} : resL T lo H V A [] = some [] := nr rfl
theorem r_tmp {H : AH} {t : Nat} {rs : List ResultVar} : resL T lo H V A (.tmp t :: rs) = gcons (look lo V A t) (resL T lo H V A rs) := nr rfl
theorem r_cell {H : AH} {p : Nat} {t : TypeId} {rs : List ResultVar} : resL T lo H V A (.cell p t :: rs) = gcons (load2 T t (look lo V A p) H.get) (resL T lo H V A rs) := nr rfl
theorem r_zero {Q : Value → AH → Prop} {H : AH} : resQ Q (some []) H = Q (.tuple #[]) H := by simp [resQ]
theorem r_one {Q : Value → AH → Prop} {v : Value} {H : AH} : resQ Q (some [v]) H = Q v H := nr rfl
theorem r_two {Q : Value → AH → Prop} {v w : Value} {vs : List Value} {H : AH} : resQ Q (some (v :: w :: vs)) H = ((v :: w :: vs).all isA = true ∧ Q (.tuple (v :: w :: vs).toArray) H) := nr rfl
theorem b_add {t : TypeId} {k : IntKind} {a b : Int} : abin T .add t (.int k a) (.int k b) = some (.int k (k.wrap (a + b))) := by simp [abin, aint]
theorem b_sub {t : TypeId} {k : IntKind} {a b : Int} : abin T .sub t (.int k a) (.int k b) = some (.int k (k.wrap (a - b))) := by simp [abin, aint]
theorem b_mul {t : TypeId} {k : IntKind} {a b : Int} : abin T .mul t (.int k a) (.int k b) = some (.int k (k.wrap (a * b))) := by simp [abin, aint]
theorem b_quo {t : TypeId} {k : IntKind} {a b : Int} : abin T .quo t (.int k a) (.int k b) = if b ≠ 0 then some (.int k (k.wrap (a.tdiv b))) else none := by by_cases h : b = 0 <;> simp [abin, aint, h]
theorem b_rem {t : TypeId} {k : IntKind} {a b : Int} : abin T .rem t (.int k a) (.int k b) = if b ≠ 0 then some (.int k (a.tmod b)) else none := by by_cases h : b = 0 <;> simp [abin, aint, h]
theorem b_eql {t : TypeId} {k : IntKind} {a b : Int} : abin T .eql t (.int k a) (.int k b) = some (.bool (decide (a = b))) := by simp [abin, aint]; by_cases h : a = b <;> simp [h]
theorem b_neq {t : TypeId} {k : IntKind} {a b : Int} : abin T .neq t (.int k a) (.int k b) = some (.bool (decide (a ≠ b))) := by simp [abin, aint]; by_cases h : a = b <;> simp [h]
theorem b_lss {t : TypeId} {k : IntKind} {a b : Int} : abin T .lss t (.int k a) (.int k b) = some (.bool (decide (a < b))) := by simp [abin, aint]
theorem b_leq {t : TypeId} {k : IntKind} {a b : Int} : abin T .leq t (.int k a) (.int k b) = some (.bool (decide (a ≤ b))) := by simp [abin, aint]
theorem b_gtr {t : TypeId} {k : IntKind} {a b : Int} : abin T .gtr t (.int k a) (.int k b) = some (.bool (decide (b < a))) := by simp [abin, aint]
theorem b_geq {t : TypeId} {k : IntKind} {a b : Int} : abin T .geq t (.int k a) (.int k b) = some (.bool (decide (b ≤ a))) := by simp [abin, aint]
theorem b_neg {k : IntKind} {a : Int} : aun .neg (.int k a) = some (.int k (k.wrap (0 - a))) := nr rfl
theorem b_not {b : Bool} : aun .not (.bool b) = some (.bool (!b)) := nr rfl
theorem x_tup {l : List Value} {i : Nat} : aextract (.tuple l.toArray) i = nth l i := by rw [aextract]; induction l generalizing i with | nil => simp [nth] | cons v l ih => cases i <;> simp_all [nth]
end
attribute [go_sem] v_tmp v_int v_bool v_str v_ptr v_snil v_nilf v_nili v_agg cs_int cs_bool cs_string cs_pointer cs_slice cs_nilFunc cs_nilIface v_func v_glob l_look l_look0 l_has l_has0 l_nth0 l_nths l_set l_assoc l_dst0 l_dsts g_nil g_cons g_cons2 g_pnil g_pcons g_pcons2 g_onone g_osome g_some isA_int isA_bool isA_str isA_ptr isA_slice isA_agg isA_nilf isA_nili isA_fn cells_int cells_bool cells_str cells_ptr cells_slice cells_nilf cells_nili cells_fn cells_agg isPtr_int isPtr_bool isPtr_str isPtr_ptr isPtr_slice isPtr_agg isPtr_nilf isPtr_nili isPtr_fn o_pickt o_pickf o_build o_nil o_bin o_un o_conv o_func o_slice o_faddr o_field o_iaddr o_extract o_pureB o_load o_box o_bslice o_mslice o_anew o_alloc o_store o_stored o_effB o_append o_copy o_clear o_callee p_put p_none p_some p_opt p_optif p_optH p_optHif p_gat p_lay p_rep0 p_rep p_call r_nil r_tmp r_cell r_zero r_one r_two b_add b_sub b_mul b_quo b_rem b_eql b_neq b_lss b_leq b_gtr b_geq b_neg b_not x_tup
attribute [go_sem high] p_condt p_condf p_gtt p_gtf p_gft p_gff p_gut p_guf
attribute [go_sem low] p_cond p_gvt p_gvf
attribute [go_sem 10000] p_condd p_condn p_gdt p_gdf
attribute [go_sem 10500] p_cndd
attribute [go_sem 11000] p_cdt p_cdf p_cndt p_cndf p_gtty p_gttn p_gtfy p_gtfn

section
variable {T : Tab} {lo : List Nat} {nt : Nat} {pt : List (Nat × List (Nat × Nat))} {rs : List ResultVar} {Q : Value → AH → Prop} {n : Nat} {p : Ph} {H H' : AH} {V V' : List Value} {A A' : List (Nat × Value)} {dst : Option Nat}
theorem cg_W (hH : H = H') (hV : V = V') (hA : A = A') : W T lo nt pt rs Q n p H V A = W T lo nt pt rs Q n p H' V' A' := by subst hH hV hA; rfl
theorem cg_Sat (hH : H = H') (hV : V = V') (hA : A = A') : Sat T lo nt pt rs Q p H V A = Sat T lo nt pt rs Q p H' V' A' := by subst hH hV hA; rfl
theorem cg_opt {o o' : Option Value} {F : Kont} (ho : o = o') (hV : V = V') (hA : A = A') : optW lo dst o F V A = optW lo dst o' F V' A' := by subst ho hV hA; rfl
theorem cg_optH {o o' : Option (Value × AH)} {F : AH → Kont} (ho : o = o') (hV : V = V') (hA : A = A') : optHW lo dst o F V A = optHW lo dst o' F V' A' := by subst ho hV hA; rfl
theorem cg_put {v v' : Value} {F : Kont} (ho : v = v') (hV : V = V') (hA : A = A') : putW lo dst v F V A = putW lo dst v' F V' A' := by subst ho hV hA; rfl
theorem cg_lay {d : Nat} {v v' : Value} {F : Kont} (ho : v = v') (hV : V = V') (hA : A = A') : layW lo d v F V A = layW lo d v' F V' A' := by subst ho hV hA; rfl
theorem cg_putV {F : Kont} (hV : V = V') (hA : A = A') : putV F V A = putV F V' A' := by subst hV hA; rfl
theorem cg_cond {o o' : Option Value} {F G : List (Nat × Value) → Prop} (ho : o = o') : condW o F G = condW o' F G := by subst ho; rfl
theorem cg_guard {d : Nat} {b : Bool} {o o' : Option Value} {F G : Kont} (ho : o = o') (hV : V = V') (hA : A = A') : guardW lo d o b F G V A = guardW lo d o' b F G V' A' := by subst ho hV hA; rfl
theorem cg_gat {d d' : Option Nat} {b : Bool} {F G : Kont} (ho : d = d') (hV : V = V') (hA : A = A') : guardAt lo d b F G V A = guardAt lo d' b F G V' A' := by subst ho hV hA; rfl
theorem cg_call {o o' : Option (FuncId × List Value)} {F : AH → Kont} (ho : o = o') (hH : H = H') (hV : V = V') (hA : A = A') : callW T lo dst o H F V A = callW T lo dst o' H' F V' A' := by subst ho hH hV hA; rfl
theorem cg_ld {o o' : Option Value} {t : TypeId} {i : Nat} {N : List (Nat × AH × AH)} {F : Value → Kont} (ho : o = o') (hH : H = H') (hV : V = V') (hA : A = A') : ldW T o t i N H F V A = ldW T o' t i N H' F V' A' := by subst ho hH hV hA; rfl
theorem cg_split {p q : Prop} {F G : List (Nat × Value) → Prop} (ho : p = q) : Split p F G = Split q F G := by subst ho; rfl
theorem cg_splitG {p q : Prop} {d : Nat} {b : Bool} {F G : Kont} (ho : p = q) (hV : V = V') (hA : A = A') : SplitG lo p d b F G V A = SplitG lo q d b F G V' A' := by subst ho hV hA; rfl
end
attribute [congr] cg_lay cg_ld cg_W cg_Sat cg_opt cg_optH cg_put cg_putV cg_cond cg_guard cg_gat cg_call cg_split cg_splitG
attribute [go_sem] pp_nil pp_cons pa_nil pa_cons am_nil am_cons an_nil an_cons m_nil m_cons n_nil n_cons ld_some
attribute [go_sem] abound aconvert apureB aalloc abox isAggD
attribute [go_sem] List.toList_toArray true_and Bool.false_eq_true Bool.true_eq_false List.all_cons List.all_nil List.cons_append List.nil_append Bool.and_true Bool.true_and decide_true decide_false Bool.not_true Bool.not_false
end Go.Ab

/- Functions and loops: how a proof enters them. -/
set_option linter.unusedVariables false
set_option linter.unusedSimpArgs false
namespace Go.Ab

def argAt : List Value → Nat → Value
  | [], _ => undef
  | v :: _, 0 => v
  | _ :: vs, n + 1 => argAt vs n
/-- A frame as a call finds it. -/
def pad : List Nat → List Value → List Value
  | [], _ => []
  | k :: lo, vs => argAt vs k :: pad lo vs
theorem argAt_eq : ∀ (vs : List Value) (k : Nat), argAt vs k = (vs[k]?).getD undef
  | [], k => by simp [argAt]
  | v :: vs, 0 => by simp [argAt]
  | v :: vs, k + 1 => by simp [argAt, argAt_eq vs k]
theorem pad_length : ∀ (lo : List Nat) (vs : List Value), (pad lo vs).length = lo.length
  | [], _ => rfl
  | k :: lo, vs => by simp [pad, pad_length lo vs]
theorem look_pad : ∀ (lo : List Nat) (vs : List Value) (t : Nat) (v : Value), look lo (pad lo vs) [] t = some v → (vs[t]?).getD undef = v
  | [], vs, t, v, h => by simp [pad, look, assoc] at h
  | k :: lo, vs, t, v, h => by
    simp only [pad, look] at h
    split at h
    · rename_i e; subst e; cases h; rw [argAt_eq]
    · exact look_pad lo vs t v h

theorem Runs_fn {T : Tab} {f : FuncId} {vs : List Value} {H : AH} {Q : Value → AH → Prop} {fn : Func} {c : Code} (rs : List ResultVar) (lo : List Nat) (pt : List (Nat × List (Nat × Nat))) (n : Nat) (h1 : T.fn f = some fn) (h2 : fn.body = some c) (h3 : fn.results.toList = rs) (h5 : okC fn.ntmps pt c = true)
    (h6 : decide (vs.length ≤ fn.ntmps) = true) (h : W T lo fn.ntmps pt rs Q n (.code c []) H (pad lo vs) []) : Runs T f vs H Q := by
  simp only [decide_eq_true_eq] at h6
  have hk : Knows lo fn.ntmps (pad lo vs) [] { tmps := vs.toArray ++ Array.replicate (fn.ntmps - vs.length) undef, defers := [] } := by
    refine ⟨by simp; omega, pad_length _ _, fun t v e => ?_⟩
    have e1 := look_pad lo vs t v e
    rw [Array.getD_eq_getD_getElem?]
    rw [← e1]
    by_cases hv : t < vs.length
    · simp [Array.getElem?_append, hv]
    · simp [Array.getElem?_append, hv, Array.getElem?_replicate]
      split <;> rfl
  obtain ⟨m, x, r, H', e, hc, hq⟩ := W_sat n _ _ _ _ h ⟨h5, rfl⟩ _ hk
  simp only [runPh] at e
  split at e
  · rename_i e1 a1 H1 hx
    simp only [fin] at e
    cases e
    refine ⟨m + 1, r, H', ?_, hq⟩
    simp only [arun, acall, h1, h2]
    have hx' : acode T (acall T (adraw T) m) (adraw T (acall T (adraw T) m)) m c { tmps := vs.toArray ++ Array.replicate (fn.ntmps - vs.length) undef, defers := [] } H = some (e1, a1, H1) := hx
    rw [hx']
    have ha : ares T fn a1 H1 = aresR T rs a1 H1 := by subst h3; rfl
    cases e1 with
    | exit id => simp [close] at hc
    | normal =>
      simp only [close] at hc
      simp only [ha]
      split at hc
      · rename_i hr; rw [hr]; exact hc
      · cases hc
    | ret =>
      simp only [close] at hc
      simp only [ha]
      split at hc
      · rename_i hr; rw [hr]; exact hc
      · cases hc
  · cases e

section
variable {T : Tab} {lo : List Nat} {nt : Nat} {pt : List (Nat × List (Nat × Nat))} {rs : List ResultVar} {Q : Value → AH → Prop}
/-- A loop, by what holds ahead of each round. -/
theorem Sat_loop (N : Nat) (I : Nat → AH → List Value → Prop) {x : Code} {K : List Fk} {H : AH} {V : List Value} {A : List (Nat × Value)} (k : Nat) (h0 : I k H V)
    (hs : ∀ k H V, I k H V → (∀ k' H' V', k' < k → I k' H' V' → Sat T lo nt pt rs Q (.code (.loop x) K) H' V' []) → W T lo nt pt rs Q N (.code x (.lp x :: K)) H V []) : Sat T lo nt pt rs Q (.code (.loop x) K) H V A := by
  have key : ∀ k H V, I k H V → Sat T lo nt pt rs Q (.code (.loop x) K) H V [] := by
    intro k
    induction k using Nat.strongRecOn with
    | _ k ih =>
      intro H V hI hok a hk
      have hok2 : okP nt pt (.code x (.lp x :: K)) := ⟨hok.1, by simp only [okK, Bool.and_eq_true]; exact ⟨hok.1, hok.2⟩⟩
      exact Good.loop (W_sat N _ _ _ _ (hs k H V hI fun k' H' V' hlt hI' => ih k' hlt H' V' hI') hok2 a hk)
  intro hok a hk
  exact key k H V h0 hok a (hk.less fun t v e => by simp [assoc] at e)
theorem callW_of {dst : Option Nat} {f : FuncId} {vs : List Value} {H : AH} {F : AH → Kont} {V : List Value} {A : List (Nat × Value)} {R : Value → AH → Prop} (h : Runs T f vs H R) (k : ∀ r H1, R r H1 → putW lo dst r (F H1) V A) : callW T lo dst (some (f, vs)) H F V A := h.mono k
end
attribute [go_sem] pad argAt
end Go.Ab

/- The table of a program. -/
set_option linter.unusedVariables false
set_option linter.unusedSimpArgs false
namespace Go.Ab

def rawTI (P : Program) (t : TypeId) : Option TI :=
  match P.underlying t, P.info? t with
  | some d, some inf => match inf.zero with
    | some z => if closedA z then some { desc := d, size := inf.size, bytes := inf.bytes, zero := z, eqs := match d with | .struct _ => !P.stoodInHeld t && !P.eqGuardType P.depth t | _ => false } else none
    | none => none
  | _, _ => none
def deep (P : Program) : Nat → TypeId → Bool
  | 0, _ => false
  | d + 1, t => match rawTI P t with
    | some { desc := .struct fs, .. } => fs.toList.all fun f => deep P d f.type
    | some _ => true
    | none => false
def tyOf (P : Program) (t : TypeId) : Option TI := if deep P 6 t then rawTI P t else none
def fnOf (P : Program) (f : FuncId) : Option Func :=
  match P.funcs[f]? with
  | some fn => if fn.name == "runtime.NumGoroutine" then none else some fn
  | none => none
def tabOf (P : Program) (glob : Nat → Bool) : Tab := { ty := tyOf P, fn := fnOf P, glob := glob }

theorem deep_more (P : Program) : ∀ (d : Nat) (t : TypeId), deep P d t = true → deep P (d + 1) t = true ∧ ∃ i, rawTI P t = some i
  | 0, t, h => by simp [deep] at h
  | d + 1, t, h => by
    simp only [deep] at h
    split at h
    · rename_i fs _ _ _ _ hi
      refine ⟨?_, _, hi⟩
      simp only [deep, hi]
      rw [List.all_eq_true] at h ⊢
      intro f hf
      exact (deep_more P d f.type (h f hf)).1
    · rename_i i hn hi
      refine ⟨?_, _, hi⟩
      simp only [deep, hi]
    · cases h
theorem tyOf_deep {P : Program} {t : TypeId} {i : TI} (h : tyOf P t = some i) : deep P 6 t = true ∧ rawTI P t = some i := by
  unfold tyOf at h
  split at h
  · rename_i hd; exact ⟨hd, h⟩
  · cases h
theorem rawTI_inv {P : Program} {t : TypeId} {i : TI} (h : rawTI P t = some i) : P.underlying t = some i.desc ∧ (∃ inf, P.info? t = some inf ∧ inf.size = i.size ∧ inf.bytes = i.bytes ∧ inf.zero = some i.zero) ∧ closedA i.zero = true ∧ (i.eqs = true → P.stoodInHeld t = false ∧ P.eqGuardType P.depth t = false) := by
  unfold rawTI at h
  split at h
  · rename_i d inf h1 h2
    split at h
    · rename_i z hz
      split at h
      · rename_i hc
        cases h
        refine ⟨h1, ⟨inf, h2, rfl, rfl, hz⟩, hc, fun he => ?_⟩
        dsimp only at he
        split at he
        · simpa using he
        · cases he
      · cases h
    · cases h
  · cases h
theorem tabOf_ok {P : Program} (glob : Nat → Bool) (hm : P.follows .mixedOrders = true) : (tabOf P glob).Ok P where
  ty t i h := ⟨(rawTI_inv (tyOf_deep h).2).1, (rawTI_inv (tyOf_deep h).2).2.1⟩
  zero t i h := (rawTI_inv (tyOf_deep h).2).2.2.1
  parts t i fs h hd f hf := by
    obtain ⟨h1, h2⟩ := tyOf_deep h
    simp only [deep, h2] at h1
    split at h1
    · rename_i gs _ _ _ _ he
      cases he
      cases hd
      rw [List.all_eq_true] at h1
      obtain ⟨h3, k, hk⟩ := deep_more P 5 f.type (h1 f hf)
      exact ⟨k, by simp only [tabOf, tyOf, h3, if_true, hk]⟩
    · rename_i hn he
      cases he
      obtain ⟨desc, a, b, c, d⟩ := i
      cases hd
      exact absurd rfl (hn _ _ _ _ _)
    · rename_i he; cases he
  eqs t i h := (rawTI_inv (tyOf_deep h).2).2.2.2
  fn f fn h := by
    simp only [tabOf, fnOf] at h
    split at h
    · rename_i g hg
      split at h
      · cases h
      · rename_i hn; cases h; exact ⟨hg, by simpa using hn⟩
    · cases h
  mixed := hm
end Go.Ab

/- What slices in the abstract heap stand for. -/
set_option linter.unusedVariables false
set_option linter.unusedSimpArgs false
namespace Go.Ab

/-- A later heap: what was live below, is as it was. -/
structure Ext (H H' : AH) : Prop where
  size : H.size ≤ H'.size
  ro : H'.ro = H.ro
  get : ∀ b x, H.get b = some x → H'.get b = some x
theorem Ext.refl (H : AH) : Ext H H := ⟨Nat.le_refl _, rfl, fun _ _ h => h⟩
theorem Ext.trans {a b c : AH} (h : Ext a b) (k : Ext b c) : Ext a c := ⟨Nat.le_trans h.size k.size, k.ro.trans h.ro, fun i x e => k.get i x (h.get i x e)⟩
theorem Ext.push (H : AH) (x : Blk) : Ext H (H.push x) :=
  ⟨Nat.le_succ _, rfl, fun b y h => by rw [AH.get_push, if_neg (Nat.ne_of_lt (AH.lt_of_get h))]; exact h⟩
theorem Ext.pushed {H0 H : AH} (h : Ext H0 H) (x : Blk) : Ext H0 (H.push x) := h.trans (Ext.push H x)
/-- Own memory, made since, may be written. -/
theorem Ext.put {H0 H : AH} (h : Ext H0 H) {b : Nat} (hb : H0.size ≤ b) (hs : b < H.size) (x : Option Blk) : Ext H0 (H.put b x) :=
  ⟨h.size, h.ro, fun c y e => by
    have := AH.lt_of_get e
    rw [AH.get_put _ _ _ _ hs, if_neg (by omega)]
    exact h.get c y e⟩

/-- A cell of an element. -/
def cell (H : AH) (a : Option Addr) (c i k : Nat) : Option Value :=
  match a with
  | some ⟨b, off, none⟩ => match H.get b with
    | some blk => blk[off + i * c + k]?
    | none => none
  | _ => none
theorem cell_ext {H H' : AH} (h : Ext H H') {a : Option Addr} {c i k : Nat} {v : Value} (e : cell H a c i k = some v) : cell H' a c i k = some v := by
  unfold cell at e ⊢
  split at e
  · rename_i b off
    split at e
    · rename_i blk hb; rw [h.get _ _ hb]; exact e
    · cases e
  · cases e

inductive Wf : Option Addr → Nat → Nat → Nat → Prop
  | nil (sz : Nat) : Wf none 0 0 sz
  | emp (sz : Nat) : Wf (some ⟨0, 0, some 0⟩) 0 0 sz
  | some (b off n sz : Nat) : Wf (some ⟨b, off, none⟩) n sz sz
/-- A slice whose elements' cells stand for things. -/
structure Sl {α : Type} (sz : Nat) (R : AH → (Nat → Option Value) → α → Prop) (H : AH) (v : Value) (l : List α) : Prop where
  mk' ::
  bd : l.length ≤ 281474976710656
  ex : ∃ a c, v = .slice a l.length c ∧ Wf a l.length c sz ∧ ∀ i x, l[i]? = some x → R H (fun k => cell H a c i k) x
theorem Sl.inv {α : Type} {sz : Nat} {R : AH → (Nat → Option Value) → α → Prop} {H : AH} {v : Value} {l : List α} (h : Sl sz R H v l) : ∃ a c, v = .slice a l.length c := let ⟨a, c, e, _⟩ := h.ex; ⟨a, c, e⟩
theorem Sl.mk {α : Type} {sz : Nat} {R : AH → (Nat → Option Value) → α → Prop} {H : AH} {a : Option Addr} {c : Nat} {l : List α} (hb : l.length ≤ 281474976710656) (hw : Wf a l.length c sz) (h : ∀ i x, l[i]? = some x → R H (fun k => cell H a c i k) x) : Sl sz R H (.slice a l.length c) l := ⟨hb, a, c, rfl, hw, h⟩
theorem Sl.of {α : Type} {sz : Nat} {R : AH → (Nat → Option Value) → α → Prop} {H : AH} {a : Option Addr} {n c : Nat} {l : List α} (h : Sl sz R H (.slice a n c) l) : n = l.length ∧ Wf a l.length c sz ∧ ∀ i x, l[i]? = some x → R H (fun k => cell H a c i k) x := by
  obtain ⟨a', c', e, h1, h2⟩ := h.ex
  cases e
  exact ⟨rfl, h1, h2⟩
theorem Sl.mono {α : Type} {sz : Nat} {R : AH → (Nat → Option Value) → α → Prop} {H H' : AH} {v : Value} {l : List α} (hR : ∀ f g x, (∀ k v, f k = some v → g k = some v) → R H f x → R H' g x) (hE : Ext H H') (h : Sl sz R H v l) : Sl sz R H' v l := by
  obtain ⟨a, c, e, hw, hc⟩ := h.ex
  exact ⟨h.bd, a, c, e, hw, fun i x hx => hR _ _ _ (fun k v e => cell_ext hE e) (hc i x hx)⟩
theorem Sl.nil {α : Type} (sz : Nat) (R : AH → (Nat → Option Value) → α → Prop) (H : AH) : Sl sz R H (.slice none 0 0) ([] : List α) := ⟨by simp, none, 0, rfl, .nil sz, fun i x h => by simp at h⟩

/-- The address of an element's cell. -/
def elp (a : Option Addr) (c : Nat) (z : Int) (k : Nat) : Value :=
  match a with
  | some ⟨b, off, s⟩ => .pointer (some ⟨b, off + z.toNat * c + k, s⟩)
  | none => .pointer none

section
variable {α : Type} {sz : Nat} {R : AH → (Nat → Option Value) → α → Prop} {H : AH} {a : Option Addr} {n c : Nat} {l : List α} (h : Sl sz R H (.slice a n c) l) {T : Tab} {t e : TypeId} {i j : TI}
include h
theorem Sl.len : n = l.length := h.of.1
theorem Sl.some_of {z : Nat} (hz : z < l.length) : ∃ b off, a = some ⟨b, off, none⟩ ∧ c = sz ∧ n = l.length := by
  obtain ⟨hn, hw, _⟩ := h.of
  generalize l.length = N at hn hw hz
  cases hw with
  | nil => omega
  | emp => omega
  | some b off => exact ⟨b, off, rfl, rfl, hn⟩
theorem Sl.ix (ht : T.ty t = some i) (hd : i.desc = .slice e) (he : T.ty e = some j) (hs : j.size = sz) (k : IntKind) (z : Int) (hz : 0 ≤ z ∧ z < l.length) : aindex T t (.slice a n c) (.int k z) = some (elp a c z 0) := by
  obtain ⟨b, off, rfl, rfl, hn⟩ := h.some_of (z := z.toNat) (by omega)
  obtain ⟨desc, si, by_, ze, eq⟩ := i
  cases hd
  simp only [aindex, ht, he]
  rw [if_pos ⟨hs, hz.1, by omega⟩]
  simp [elp]
theorem Sl.at_ (z : Nat) (hz : z < l.length) : ∃ x, l[z]? = some x ∧ R H (fun k => cell H a c z k) x :=
  ⟨l[z], List.getElem?_eq_getElem hz, h.of.2.2 z _ (List.getElem?_eq_getElem hz)⟩
theorem Sl.ld1 (he : T.ty e = some j) (hs : isAggD j.desc = false) (z : Int) (k : Nat) {v : Value} (hv : cell H a c z.toNat k = some v) : aload T e (elp a c z k) H.get = some v := by
  unfold cell at hv
  split at hv
  · rename_i b off
    split at hv
    · rename_i blk hb
      simp only [elp, aload, he, hb, hs, Bool.false_eq_true, if_false]
      exact hv
    · cases hv
  · cases hv
theorem Sl.ld2 (he : T.ty e = some j) (hs : isAggD j.desc = true) (hn : j.size = 2) (z : Int) {v w : Value} (hv : cell H a c z.toNat 0 = some v) (hw : cell H a c z.toNat 1 = some w) : aload T e (elp a c z 0) H.get = some (.agg #[v, w]) := by
  unfold cell at hv hw
  split at hv
  · rename_i b off
    split at hv
    · rename_i blk hb
      simp only [hb] at hw
      have h1 := (List.getElem?_eq_some_iff.1 hv)
      have h2 := (List.getElem?_eq_some_iff.1 hw)
      obtain ⟨l1, e1⟩ := h1
      obtain ⟨l2, e2⟩ := h2
      simp only [elp, aload, he, hb, hs, if_true, hn]
      rw [if_pos (by omega)]
      have : (blk.drop (off + z.toNat * c + 0)).take 2 = [v, w] := by
        apply List.ext_getElem
        · simp; omega
        · intro i hi hi'
          simp only [List.length_cons, List.length_nil] at hi'
          match i, hi' with
          | 0, _ => simp; exact e1
          | 1, _ => simp; exact e2
      rw [this]
    · cases hv
  · cases hv
theorem Sl.fa {f : Nat} {fs : Array Field} {fd : Field} (ht : T.ty t = some i) (hd : i.desc = .struct fs) (hf : fs[f]? = some fd) (he : T.ty fd.type = some j) (hs : j.size ≠ 0) (z : Int) (hz : 0 ≤ z ∧ z < l.length) : afield T t (elp a c z 0) f = some (elp a c z fd.offset) := by
  obtain ⟨b, off, rfl, rfl, hn⟩ := h.some_of (z := z.toNat) (by omega)
  obtain ⟨desc, si, by_, ze, eq⟩ := i
  cases hd
  simp only [elp, afield, ht, hf, he, hs, if_false]
  simp
/-- A part of a slice. -/
theorem Sl.sub (ht : T.ty t = some i) (hd : i.desc = .slice e) (he : T.ty e = some j) (hs : j.size = sz) (lo hi : Option Value) (p q : Nat) (hp : abound l.length hi l.length = some q) (hq : abound q lo 0 = some p) :
    ∃ a' c', aslice T t (.slice a n c) lo hi = some (.slice a' (q - p) c') ∧ Sl sz R H (.slice a' (q - p) c') ((l.drop p).take (q - p)) := by
  have hbd : q ≤ l.length := by
    unfold abound at hp
    split at hp
    · cases hp; exact Nat.le_refl _
    · split at hp
      · rename_i hh; cases hp; omega
      · cases hp
    · cases hp
  have hpq : p ≤ q := by
    unfold abound at hq
    split at hq
    · cases hq; omega
    · split at hq
      · rename_i hh; cases hq; omega
      · cases hq
    · cases hq
  have hbd0 := h.bd
  obtain ⟨hn, hw, hc⟩ := h.of
  subst hn
  obtain ⟨desc, si, by_, ze, eq⟩ := i
  cases hd
  have hlen : ((l.drop p).take (q - p)).length = q - p := by simp; omega
  generalize hN : l.length = N at *
  cases hw with
  | nil =>
    obtain rfl : q = 0 := by omega
    obtain rfl : p = 0 := by omega
    refine ⟨none, 0, by simp only [aslice, ht, he]; rw [hp]; simp only [hq], by omega, none, 0, by rw [hlen], by rw [hlen]; exact .nil sz, fun i x hx => by simp at hx⟩
  | emp =>
    obtain rfl : q = 0 := by omega
    obtain rfl : p = 0 := by omega
    refine ⟨some ⟨0, 0, some 0⟩, 0, by simp only [aslice, ht, he]; rw [hp]; simp only [hq], by omega, some ⟨0, 0, some 0⟩, 0, by rw [hlen], by rw [hlen]; exact .emp sz, fun i x hx => by simp at hx⟩
  | some b off =>
    refine ⟨some ⟨b, off + p * sz, none⟩, sz, ?_, by omega, some ⟨b, off + p * sz, none⟩, sz, by rw [hlen], .some _ _ _ _, fun i x hx => ?_⟩
    · simp only [aslice, ht, he, hs, if_true, hp, hq]
    · have hlt : i < q - p := by
        have := (List.getElem?_eq_some_iff.1 hx).1
        omega
      have hx' : l[p + i]? = some x := by
        rw [List.getElem?_take_of_lt hlt, List.getElem?_drop] at hx
        exact hx
      have := hc (p + i) x hx'
      have hce : (fun k => cell H (some ⟨b, off, none⟩) sz (p + i) k) = fun k => cell H (some ⟨b, off + p * sz, none⟩) sz i k := by
        funext k
        simp only [cell]
        have : off + (p + i) * sz + k = off + p * sz + i * sz + k := by rw [Nat.add_mul]; omega
        rw [this]
      rw [hce] at this
      exact this
end

/-! ### Slices of whole numbers, of such slices -/
def RInt : AH → (Nat → Option Value) → Int → Prop := fun _ f x => f 0 = some (.int .i64 x)
abbrev Ints := Sl 1 RInt
theorem Ints.mono {H H' : AH} (hE : Ext H H') {v : Value} {l : List Int} (h : Ints H v l) : Ints H' v l := Sl.mono (fun f g x hk hr => hk 0 _ hr) hE h
def RInts : AH → (Nat → Option Value) → List Int → Prop := fun H f x => ∃ u, f 0 = some u ∧ Ints H u x
abbrev Intss := Sl 1 RInts
theorem Intss.mono {H H' : AH} (hE : Ext H H') {v : Value} {l : List (List Int)} (h : Intss H v l) : Intss H' v l := Sl.mono (fun f g x hk hr => let ⟨u, e, k⟩ := hr; ⟨u, hk 0 _ e, k.mono hE⟩) hE h
/-- A number of a list, by a whole number. -/
def gi (l : List Int) (z : Int) : Int := l.getD z.toNat 0
theorem Ints.cell {H : AH} {a : Option Addr} {n c : Nat} {l : List Int} (h : Ints H (.slice a n c) l) (z : Int) (hz : 0 ≤ z ∧ z < l.length) : Ab.cell H a c z.toNat 0 = some (.int .i64 (gi l z)) := by
  obtain ⟨x, hx, hr⟩ := h.at_ z.toNat (by omega)
  have : gi l z = x := by simp [gi, List.getD_eq_getElem?_getD, hx]
  rw [this]; exact hr
end Go.Ab

/- Making and writing slices in the abstract heap. -/
set_option linter.unusedVariables false
set_option linter.unusedSimpArgs false
namespace Go.Ab

/-- A later heap, in all but one block. -/
structure Fr (b : Nat) (H H' : AH) : Prop where
  size : H.size ≤ H'.size
  ro : H'.ro = H.ro
  get : ∀ c x, c ≠ b → H.get c = some x → H'.get c = some x
theorem Fr.refl (b : Nat) (H : AH) : Fr b H H := ⟨Nat.le_refl _, rfl, fun _ _ _ h => h⟩
theorem Fr.trans {b : Nat} {x y z : AH} (h : Fr b x y) (k : Fr b y z) : Fr b x z := ⟨Nat.le_trans h.size k.size, k.ro.trans h.ro, fun c u n e => k.get c u n (h.get c u n e)⟩
theorem Fr.of_ext (b : Nat) {H H' : AH} (h : Ext H H') : Fr b H H' := ⟨h.size, h.ro, fun c x _ e => h.get c x e⟩
theorem Fr.put (b : Nat) (H : AH) (hb : b < H.size) (x : Option Blk) : Fr b H (H.put b x) := ⟨Nat.le_refl _, rfl, fun c y hc e => by rw [AH.get_put _ _ _ _ hb, if_neg hc]; exact e⟩
theorem Fr.ext {b : Nat} {H0 H H' : AH} (h : Fr b H H') (h0 : Ext H0 H) (hb : H0.size ≤ b) : Ext H0 H' :=
  ⟨Nat.le_trans h0.size h.size, h.ro.trans h0.ro, fun c x e => h.get c x (by have := AH.lt_of_get e; omega) (h0.get c x e)⟩

/-- A slice type's row of the table. -/
structure STy (T : Tab) (t e : TypeId) (sz : Nat) : Prop where
  ex : ∃ i j, T.ty t = some i ∧ i.desc = .slice e ∧ T.ty e = some j ∧ j.size = sz ∧ sz ≠ 0 ∧ j.zero.cells.size = sz ∧ j.bytes ≠ 0 ∧ j.bytes ≤ 96 ∧ (sz = 1 → isAggD j.desc = false) ∧ (sz ≠ 1 → isAggD j.desc = true)

/-- A slice that was made since: none, or a whole block. -/
inductive Own (H0 H : AH) (sz : Nat) : Value → Nat → List Value → Prop
  | nil : Own H0 H sz (.slice none 0 0) 0 []
  | mk (b n : Nat) (xs : List Value) (hb : H0.size ≤ b) (hro : H0.ro ≤ H0.size) (hr : H.ro = H0.ro) (hg : H.get b = some xs) (hl : xs.length = n * sz) (hn : n ≤ 281474976710656) : Own H0 H sz (.slice (some ⟨b, 0, none⟩) n sz) n xs
theorem Own.ext {H0 H H' : AH} {sz n : Nat} {v : Value} {xs : List Value} (h : Own H0 H sz v n xs) (hE : Ext H H') : Own H0 H' sz v n xs := by
  cases h with
  | nil => exact .nil
  | mk b n xs hb hro hr hg hl hn => exact .mk b n xs hb hro (hE.ro.trans hr) (hE.get _ _ hg) hl hn
theorem Own.len {H0 H : AH} {sz n : Nat} {v : Value} {xs : List Value} (h : Own H0 H sz v n xs) : xs.length = n * sz := by
  cases h with
  | nil => simp
  | mk b n xs hb hro hr hg hl hn => exact hl
/-- What an own slice's cells are. -/
theorem Own.sl {α : Type} {H0 H : AH} {sz n : Nat} {v : Value} {xs : List Value} {R : AH → (Nat → Option Value) → α → Prop} {l : List α} (h : Own H0 H sz v n xs) (hn : l.length = n) (hR : ∀ i x, l[i]? = some x → R H (fun k => xs[i * sz + k]?) x) : Sl sz R H v l := by
  cases h with
  | nil =>
    have : l = [] := List.eq_nil_of_length_eq_zero hn
    subst this
    exact Sl.nil sz R H
  | mk b n xs hb hro hr hg hl hm =>
    subst hn
    refine Sl.mk hm (.some _ _ _ _) fun i x hx => ?_
    have : (fun k => cell H (some ⟨b, 0, none⟩) sz i k) = fun k => xs[i * sz + k]? := by
      funext k
      simp only [cell, hg, Nat.zero_add]
    rw [this]
    exact hR i x hx
/-- A making of no, one, two, three elements. -/
theorem bslice_1 {T : Tab} {t e : TypeId} (h : STy T t e 1) (v : Value) (hv : v.cells = #[v]) (id : Nat) : abuildSlice T t 1 [(0, v)] id = some (.slice (some ⟨id, 0, none⟩) 1 1, [v]) := by
  obtain ⟨i, j, h1, h2, h3, h4, h5, h6, h7, h8⟩ := h.ex
  obtain ⟨desc, si, by_, ze, eq⟩ := i
  cases h2
  obtain ⟨z, hz⟩ : ∃ z, j.zero.cells = #[z] := by
    match hj : j.zero.cells, h6 with
    | ⟨[z]⟩, _ => exact ⟨z, rfl⟩
  simp [abuildSlice, h1, h3, h4, h6, hz, azeros, Instr.fill, hv]
theorem bslice_0 {T : Tab} {t e : TypeId} {sz : Nat} (h : STy T t e sz) (id : Nat) : abuildSlice T t 0 [] id = some (.slice (some ⟨id, 0, none⟩) 0 sz, []) := by
  obtain ⟨i, j, h1, h2, h3, h4, h5, h6, h7, h8⟩ := h.ex
  obtain ⟨desc, si, by_, ze, eq⟩ := i
  cases h2
  simp [abuildSlice, h1, h3, h4, h6, h5, azeros, Instr.fill]
theorem bslice_2 {T : Tab} {t e : TypeId} (h : STy T t e 1) (v w : Value) (hv : v.cells = #[v]) (hw : w.cells = #[w]) (id : Nat) : abuildSlice T t 2 [(0, v), (1, w)] id = some (.slice (some ⟨id, 0, none⟩) 2 1, [v, w]) := by
  obtain ⟨i, j, h1, h2, h3, h4, h5, h6, h7, h8⟩ := h.ex
  obtain ⟨desc, si, by_, ze, eq⟩ := i
  cases h2
  obtain ⟨z, hz⟩ : ∃ z, j.zero.cells = #[z] := by
    match hj : j.zero.cells, h6 with
    | ⟨[z]⟩, _ => exact ⟨z, rfl⟩
  simp [abuildSlice, h1, h3, h4, h6, hz, azeros, Instr.fill, hv, hw]
theorem bslice_3 {T : Tab} {t e : TypeId} (h : STy T t e 1) (v w u : Value) (hv : v.cells = #[v]) (hw : w.cells = #[w]) (hu : u.cells = #[u]) (id : Nat) : abuildSlice T t 3 [(0, v), (1, w), (2, u)] id = some (.slice (some ⟨id, 0, none⟩) 3 1, [v, w, u]) := by
  obtain ⟨i, j, h1, h2, h3, h4, h5, h6, h7, h8⟩ := h.ex
  obtain ⟨desc, si, by_, ze, eq⟩ := i
  cases h2
  obtain ⟨z, hz⟩ : ∃ z, j.zero.cells = #[z] := by
    match hj : j.zero.cells, h6 with
    | ⟨[z]⟩, _ => exact ⟨z, rfl⟩
  simp [abuildSlice, h1, h3, h4, h6, hz, azeros, Instr.fill, hv, hw, hu]
theorem bslice_1' {T : Tab} {t e : TypeId} (h : STy T t e 2) (a b : Value) (id : Nat) : abuildSlice T t 1 [(0, .agg #[a, b])] id = some (.slice (some ⟨id, 0, none⟩) 1 2, [a, b]) := by
  obtain ⟨i, j, h1, h2, h3, h4, h5, h6, h7, h8⟩ := h.ex
  obtain ⟨desc, si, by_, ze, eq⟩ := i
  cases h2
  obtain ⟨z, y, hz⟩ : ∃ z y, j.zero.cells = #[z, y] := by
    match hj : j.zero.cells, h6 with
    | ⟨[z, y]⟩, _ => exact ⟨z, y, rfl⟩
  simp [abuildSlice, h1, h3, h4, h6, hz, azeros, Instr.fill, cells_agg, List.zipIdx]
theorem bslice_2' {T : Tab} {t e : TypeId} (h : STy T t e 2) (a b c d : Value) (id : Nat) : abuildSlice T t 2 [(0, .agg #[a, b]), (1, .agg #[c, d])] id = some (.slice (some ⟨id, 0, none⟩) 2 2, [a, b, c, d]) := by
  obtain ⟨i, j, h1, h2, h3, h4, h5, h6, h7, h8⟩ := h.ex
  obtain ⟨desc, si, by_, ze, eq⟩ := i
  cases h2
  obtain ⟨z, y, hz⟩ : ∃ z y, j.zero.cells = #[z, y] := by
    match hj : j.zero.cells, h6 with
    | ⟨[z, y]⟩, _ => exact ⟨z, y, rfl⟩
  simp [abuildSlice, h1, h3, h4, h6, hz, azeros, Instr.fill, cells_agg, List.zipIdx]

/-- Appending to an own slice. -/
theorem Own.append {T : Tab} {t e : TypeId} {sz : Nat} (hT : STy T t e sz) {H0 H : AH} {n m : Nat} {v x : Value} {xs ys : List Value} (h : Own H0 H sz v n xs) (h0 : H0.ro ≤ H0.size) (hE : Ext H0 H)
    (hx : alenOf x = some m) (hy : afirst sz m x H = some ys) (hyl : ys.length = m * sz) (hb : (n + m) * 96 ≤ 140737488355328) :
    ∃ v' H', aappend T t t v x H = some (v', H') ∧ Own H0 H' sz v' (n + m) (xs ++ ys) ∧ Ext H0 H' := by
  obtain ⟨i, j, h1, h2, h3, h4, h5, h6, h7, h8, h9⟩ := hT.ex
  obtain ⟨desc, si, by_, ze, eq⟩ := i
  cases h2
  have hbm : ∀ k, k ≤ n + m → k * j.bytes ≤ 140737488355328 := fun k hk => Nat.le_trans (Nat.mul_le_mul hk h8) hb
  have hyn : ¬ ys.length ≠ m * sz := by omega
  cases h with
  | nil =>
    by_cases hm : m = 0
    · subst hm
      have : ys = [] := List.eq_nil_of_length_eq_zero (by omega)
      subst this
      refine ⟨.slice none 0 0, H, ?_, .nil, hE⟩
      subst h4
      simp [aappend, h1, h3, h5, h6, h7, hx, hy]
    · refine ⟨.slice (some ⟨H.size, 0, none⟩) m sz, H.push ys, ?_, ?_, hE.pushed _⟩
      · subst h4
        simp [aappend, h1, h3, h5, h6, h7, hx, hy, hyl, hm, hbm m (by omega)]
      · rw [Nat.zero_add, List.nil_append]
        refine .mk H.size m ys hE.size h0 hE.ro ?_ hyl (by omega)
        rw [AH.get_push, if_pos rfl]
  | mk b n xs hbb hro hr hg hl hn =>
    by_cases hm : m = 0
    · subst hm
      have : ys = [] := List.eq_nil_of_length_eq_zero (by omega)
      subst this
      refine ⟨.slice (some ⟨b, 0, none⟩) n sz, H, ?_, by rw [List.append_nil]; exact .mk b n xs hbb hro hr hg hl hn, hE⟩
      subst h4
      simp [aappend, h1, h3, h5, h6, h7, hx, hy]
    · have hbs := AH.lt_of_get hg
      refine ⟨.slice (some ⟨H.size, 0, none⟩) (n + m) sz, (H.put b none).push (xs ++ ys), ?_, ?_, ?_⟩
      · subst h4
        have hle : n * j.size ≤ xs.length := by omega
        have htk : xs.take (n * j.size) = xs := List.take_of_length_le (by omega)
        have hrb : H.ro ≤ b := by omega
        simp [aappend, h1, h3, h5, h6, h7, hx, hy, hyl, hm, hg, hrb, hle, hbm (n + m) (by omega), htk]
      · refine .mk H.size (n + m) (xs ++ ys) hE.size h0 hE.ro ?_ (by rw [List.length_append, hl, hyl, Nat.add_mul]) (by omega)
        rw [AH.get_push]; simp
      · exact (hE.put hbb hbs none).pushed _

/-- What is read of a slice that is appended. -/
theorem afirst_block {sz m b : Nat} {H : AH} {ys : List Value} (hg : H.get b = some ys) (hl : ys.length = m * sz) : afirst sz m (.slice (some ⟨b, 0, none⟩) m sz) H = some ys := by
  unfold afirst
  simp only
  split
  · rename_i h0; rw [h0] at hl; rw [List.eq_nil_of_length_eq_zero hl]
  · simp only [hg, Nat.zero_add, List.drop_zero]
    simp [hl, List.take_of_length_le (Nat.le_of_eq hl)]
theorem afirst_sl {α : Type} {sz : Nat} {R : AH → (Nat → Option Value) → α → Prop} {H : AH} {a : Option Addr} {n c : Nat} {l : List α} (h : Sl sz R H (.slice a n c) l) (f : α → List Value) (hf : ∀ x g, R H g x → (f x).length = sz ∧ ∀ k, k < sz → g k = (f x)[k]?) : afirst sz n (.slice a n c) H = some (l.flatMap f) := by
  obtain ⟨hn, hw, hc⟩ := h.of
  subst hn
  have hfl : (l.flatMap f).length = l.length * sz := by
    have : ∀ x ∈ l, (f x).length = sz := fun x hx => by
      obtain ⟨i, hi, e⟩ := List.mem_iff_getElem.1 hx
      exact (hf x _ (hc i x (by rw [List.getElem?_eq_getElem hi, e]))).1
    clear hw hc h
    induction l with
    | nil => simp
    | cons y l ih => simp [this y (by simp), ih (fun x hx => this x (by simp [hx])), Nat.succ_mul, Nat.add_comm]
  by_cases h0 : l.length * sz = 0
  · have : l.flatMap f = [] := List.eq_nil_of_length_eq_zero (by omega)
    rw [this]
    unfold afirst
    cases a with
    | none => rfl
    | some ad => simp [h0]
  · have hlen : 0 < l.length := Nat.pos_of_ne_zero fun e => h0 (by rw [e, Nat.zero_mul])
    obtain ⟨b, off, rfl, rfl, hxx⟩ := h.some_of hlen
    clear hxx
    obtain ⟨y, hy⟩ : ∃ y, H.get b = some y := by
      obtain ⟨x, hx, hr⟩ := h.at_ 0 hlen
      have h1 := (hf x _ hr).2 0 (Nat.pos_of_ne_zero fun e => h0 (by rw [e, Nat.mul_zero]))
      have h2 := (hf x _ hr).1
      have : (f x)[0]? ≠ none := by
        rw [List.getElem?_eq_getElem (by rw [h2]; exact Nat.pos_of_ne_zero fun e => h0 (by rw [e, Nat.mul_zero]))]; simp
      rw [← h1] at this
      simp only [cell] at this
      cases hg : H.get b with
      | none => rw [hg] at this; simp at this
      | some y => exact ⟨y, rfl⟩
    have hcell : ∀ i k, i < l.length → k < c → ∃ x, l[i]? = some x ∧ y[off + i * c + k]? = (f x)[k]? ∧ (f x).length = c := fun i k hi hk => by
      obtain ⟨x, hx, hr⟩ := h.at_ i hi
      obtain ⟨e1, e2⟩ := hf x _ hr
      have := e2 k hk
      simp only [cell, hy] at this
      exact ⟨x, hx, this, e1⟩
    have hfm : ∀ i k x, l[i]? = some x → k < c → (l.flatMap f)[i * c + k]? = (f x)[k]? := by
      have hall : ∀ x ∈ l, (f x).length = c := fun x hx => by
        obtain ⟨i, hi, e⟩ := List.mem_iff_getElem.1 hx
        exact (hf x _ (hc i x (by rw [List.getElem?_eq_getElem hi, e]))).1
      clear hw hc h hfl hlen hcell h0
      induction l with
      | nil => intro i k x hx; simp at hx
      | cons z l ih =>
        intro i k x hx hk
        have hz := hall z (by simp)
        cases i with
        | zero =>
          simp at hx; subst hx
          simp only [List.flatMap_cons, Nat.zero_mul, Nat.zero_add]
          rw [List.getElem?_append_left (by omega)]
        | succ i =>
          simp at hx
          simp only [List.flatMap_cons]
          rw [List.getElem?_append_right (by rw [hz, Nat.succ_mul]; omega), hz]
          rw [show (i + 1) * c + k - c = i * c + k by rw [Nat.succ_mul]; omega]
          exact ih (fun x hx => hall x (by simp [hx])) i k x hx hk
    have hc0 : 0 < c := Nat.pos_of_ne_zero fun e => h0 (by rw [e, Nat.mul_zero])
    have key : (y.drop off).take (l.length * c) = l.flatMap f := by
      apply List.ext_getElem?
      intro q
      by_cases hq : q < l.length * c
      · rw [List.getElem?_take_of_lt hq, List.getElem?_drop]
        have hi : q / c < l.length := Nat.div_lt_of_lt_mul (by rw [Nat.mul_comm]; exact hq)
        obtain ⟨x, hx, e1, e2⟩ := hcell (q / c) (q % c) hi (Nat.mod_lt _ hc0)
        have hqe : q / c * c + q % c = q := Nat.div_add_mod' q c
        rw [show off + q = off + q / c * c + q % c by omega, e1, ← hfm (q / c) (q % c) x hx (Nat.mod_lt _ hc0), hqe]
      · rw [List.getElem?_eq_none (by simp; omega), List.getElem?_eq_none (by omega)]
    have hlast : off + l.length * c ≤ y.length := by
      obtain ⟨x, hx, e1, e2⟩ := hcell (l.length - 1) (c - 1) (by omega) (by omega)
      have : (f x)[c - 1]? ≠ none := by rw [List.getElem?_eq_getElem (by omega)]; simp
      rw [← e1] at this
      have := (List.getElem?_eq_some_iff.1 (Option.ne_none_iff_exists'.1 this).choose_spec).1
      have hm : l.length * c = (l.length - 1) * c + c := by
        rw [← Nat.succ_mul]; congr 1; omega
      omega
    unfold afirst
    simp only [h0, if_false, hy]
    simp [hlast, key]
/-- Making zeros. -/
theorem amake_ok {T : Tab} {t e : TypeId} {sz : Nat} (hT : STy T t e sz) {z : Int} (h0 : 0 ≤ z) (hb : z ≤ 281474976710) {H : AH} : ∃ zc, T.ty e = some zc ∧ amake T t (.int .i64 z) (.int .i64 z) H.size = some (.slice (some ⟨H.size, 0, none⟩) z.toNat sz, azeros zc.zero.cells.toList z.toNat) := by
  obtain ⟨i, j, h1, h2, h3, h4, h5, h6, h7, h8, h9⟩ := hT.ex
  obtain ⟨desc, si, by_, ze, eq⟩ := i
  cases h2
  refine ⟨j, h3, ?_⟩
  have hbb : (j.bytes : Int) * z ≤ 281474976710656 := by
    have : (j.bytes : Int) * z ≤ 96 * 281474976710 := Int.mul_le_mul (by omega) hb h0 (by omega)
    omega
  simp [amake, h1, h3, h4, h5, h6, h0]
  omega
/-- Writing a cell of an own slice. -/
theorem astore_own {T : Tab} {e : TypeId} {j : TI} (he : T.ty e = some j) (hs : j.size = 1) {H : AH} {b : Nat} {xs : List Value} {v : Value} (hv : v.cells = #[v]) (ha : isA v = true) (hro : H.ro ≤ b) (hg : H.get b = some xs) (z : Int) (hz : 0 ≤ z ∧ z < xs.length) : astore T e (elp (some ⟨b, 0, none⟩) 1 z 0) v H = some (H.put b (some (xs.set z.toNat v))) := by
  simp only [elp, astore, he, hg, hv, ha, hs, hro]
  simp only [Nat.zero_add, Nat.mul_one, Nat.add_zero]
  rw [if_pos]
  · simp [splice]
  · simp; omega
end Go.Ab
namespace Go.Ab
theorem eq_nil {T : Tab} {t e : TypeId} {i : TI} (ht : T.ty t = some i) (hd : i.desc = .slice e) (a : Option Addr) (n c : Nat) : abin T .eql t (.slice a n c) (.slice none 0 0) = some (.bool a.isNone) := by
  obtain ⟨desc, si, by_, ze, eq⟩ := i
  cases hd
  cases a <;> simp [abin, aeq, ht]
theorem Sl.nil_of {α : Type} {sz : Nat} {R : AH → (Nat → Option Value) → α → Prop} {H : AH} {n c : Nat} {l : List α} (h : Sl sz R H (.slice none n c) l) : l = [] := by
  obtain ⟨hn, hw, _⟩ := h.of
  generalize hN : l.length = N at hw
  cases hw
  exact List.eq_nil_of_length_eq_zero hN
end Go.Ab
namespace Go.Ab
theorem Same.of {T : Tab} {t : TypeId} {p v : Value} {H H' : AH} (h : aload T t p H.get = some v) (h' : aload T t p H'.get = some v) (hv : seqV v v = true) : Same T t p H H' := by
  unfold Same
  rw [h, h']
  exact hv
theorem Sl.seq {α : Type} {sz : Nat} {R : AH → (Nat → Option Value) → α → Prop} {H : AH} {v : Value} {l : List α} (h : Sl sz R H v l) : seqV v v = true := by
  obtain ⟨a, c, rfl⟩ := h.inv
  simp [seqV, seq1]
end Go.Ab
namespace Go.Ab
theorem aload_ext {T : Tab} {t : TypeId} {p v : Value} {H H' : AH} (hE : Ext H H') (h : aload T t p H.get = some v) : aload T t p H'.get = some v := by
  unfold aload at h ⊢
  split at h
  · rename_i b off
    split at h
    · rename_i i blk h1 h2
      rw [h1, hE.get _ _ h2]
      exact h
    · cases h
  · cases h
end Go.Ab
namespace Go.Ab
theorem boxld {T : Tab} {e : TypeId} {j : TI} (he : T.ty e = some j) (hs : isAggD j.desc = false) (H : AH) (xs : List Value) (k : Nat) {v : Value} (hv : xs[k]? = some v) : aload T e (.pointer (some ⟨H.size, k, none⟩)) (H.push xs).get = some v := by
  simp only [aload, he, AH.get_push, if_true, hs, Bool.false_eq_true, if_false]
  exact hv
end Go.Ab
namespace Go.Ab
/-! ### Blocks that are known whole -/
theorem AH.get_putA (H : AH) (b c : Nat) (x : Option Blk) : (H.put b x).get c = if c = b then (if b < H.size then x else none) else H.get c := by
  by_cases hb : b < H.size
  · rw [AH.get_put H b c x hb]
    split <;> simp [hb]
  · by_cases hc : c < H.size
    · rw [if_neg (by omega)]
      unfold AH.get AH.put
      simp only [Tr.at_lay]
      rw [if_neg (show ¬ c = b by omega)]
    · rw [AH.get_ge (by simpa using Nat.le_of_not_lt hc)]
      split
      · simp [hb]
      · rw [AH.get_ge (by omega)]
def nthO (o : Option Blk) (k : Nat) : Option Value :=
  match o with
  | some l => nth l k
  | none => none
def aggO (o : Option Blk) (k n : Nat) : Option Value :=
  match o with
  | some l => if k + n ≤ l.length then some (.agg ((l.drop k).take n).toArray) else none
  | none => none
def consO (x : Value) (o : Option Blk) : Option Blk :=
  match o with
  | some l => some (x :: l)
  | none => none
def setl : List Value → Nat → List Value → Option (List Value)
  | l, 0, [] => some l
  | _ :: l, 0, v :: vs => consO v (setl l 0 vs)
  | x :: l, k + 1, vs => consO x (setl l k vs)
  | [], _, _ => none
def setO (o : Option Blk) (k : Nat) (vs : List Value) : Option Blk :=
  match o with
  | some l => setl l k vs
  | none => none
def putO (G : AH) (b : Nat) (o : Option Blk) : Option AH :=
  match o with
  | some l => some (G.put b (some l))
  | none => none
theorem nth_eq : ∀ (l : List Value) (k : Nat), nth l k = l[k]?
  | [], k => by simp [nth]
  | v :: l, 0 => by simp [nth]
  | v :: l, k + 1 => by simp [nth, nth_eq l k]
theorem setl_eq : ∀ (l : List Value) (k : Nat) (vs : List Value), k + vs.length ≤ l.length → setl l k vs = some (l.take k ++ vs ++ l.drop (k + vs.length))
  | l, 0, [], h => by cases l <;> simp [setl]
  | x :: l, 0, v :: vs, h => by
    simp only [List.length_cons] at h
    rw [setl, setl_eq l 0 vs (by omega)]
    simp [consO]
  | x :: l, k + 1, vs, h => by
    simp only [List.length_cons] at h
    have : setl (x :: l) (k + 1) vs = consO x (setl l k vs) := by cases vs <;> rfl
    rw [this, setl_eq l k vs (by omega)]
    simp only [consO, List.take_succ_cons, List.cons_append, Option.some.injEq, List.cons.injEq, true_and]
    rw [show k + 1 + vs.length = k + vs.length + 1 by omega, List.drop_succ_cons]
  | [], 0, v :: vs, h => by simp at h
  | [], k + 1, vs, h => by simp at h
theorem setl_none : ∀ (l : List Value) (k : Nat) (vs : List Value), ¬ k + vs.length ≤ l.length → setl l k vs = none
  | l, 0, [], h => by simp at h
  | x :: l, 0, v :: vs, h => by
    simp only [List.length_cons] at h
    rw [setl, setl_none l 0 vs (by omega)]
    rfl
  | x :: l, k + 1, vs, h => by
    simp only [List.length_cons] at h
    have : setl (x :: l) (k + 1) vs = consO x (setl l k vs) := by cases vs <;> rfl
    rw [this, setl_none l k vs (by omega)]
    rfl
  | [], 0, v :: vs, h => rfl
  | [], k + 1, vs, h => by cases vs <;> rfl
theorem load_pt {T : Tab} {e : TypeId} {j : TI} (he : T.ty e = some j) (hs : isAggD j.desc = false) (b k : Nat) (G : Nat → Option Blk) : aload T e (.pointer (some ⟨b, k, none⟩)) G = nthO (G b) k := by
  simp only [aload, he]
  cases G b with
  | none => rfl
  | some l => simp [hs, nthO, nth_eq]
theorem load_agg {T : Tab} {e : TypeId} {j : TI} (he : T.ty e = some j) (hs : isAggD j.desc = true) (b k : Nat) (G : Nat → Option Blk) : aload T e (.pointer (some ⟨b, k, none⟩)) G = aggO (G b) k j.size := by
  simp only [aload, he]
  cases G b with
  | none => rfl
  | some l => simp [hs, aggO]
theorem store_pt {T : Tab} {e : TypeId} {j : TI} (he : T.ty e = some j) (b k : Nat) (v : Value) (G : AH) (hro : G.ro ≤ b) (ha : isA v = true) (hs : v.cells.size = j.size) : astore T e (.pointer (some ⟨b, k, none⟩)) v G = putO G b (setO (G.get b) k v.cells.toList) := by
  simp only [astore, he]
  cases hg : G.get b with
  | none => rfl
  | some l =>
    simp only [ha, hs, hro, decide_true, Bool.true_and, beq_self_eq_true, decide_eq_true_eq, setO]
    have hlen : v.cells.toList.length = j.size := by simpa using hs
    split
    · rename_i hle
      rw [setl_eq l k _ (by rw [hlen]; omega)]
      simp only [putO]
      congr 2
      apply congrArg
      apply List.ext_getElem?
      intro i
      rw [splice_get (by rw [hlen]; omega)]
      by_cases h1 : i < k
      · rw [if_neg (by omega), List.append_assoc, List.getElem?_append_left (by simp; omega), List.getElem?_take_of_lt h1]
      · by_cases h2 : i < k + v.cells.toList.length
        · rw [if_pos (by omega), List.append_assoc, List.getElem?_append_right (by simp; omega)]
          have : (l.take k).length = k := by simp; omega
          rw [this, List.getElem?_append_left (by omega)]
        · rw [if_neg (by omega), List.getElem?_append_right (by simp; omega)]
          have : (l.take k ++ v.cells.toList).length = k + v.cells.toList.length := by simp; omega
          rw [this, List.getElem?_drop]
          congr 1; omega
    · rename_i hle
      rw [setl_none l k _ (by rw [hlen]; omega)]
      rfl
section
variable {x v w y : Value} {l vs : List Value} {G : AH} {b k : Nat}
theorem h_nth : nthO (some l) k = nth l k := nr rfl
theorem h_agg2 : aggO (some [v, w]) 0 2 = some (.agg #[v, w]) := nr rfl
theorem h_agg4 : aggO (some [v, w, x, y]) 0 4 = some (.agg #[v, w, x, y]) := nr rfl
theorem h_cons : consO x (some l) = some (x :: l) := nr rfl
theorem h_set0 : setl l 0 [] = some l := by cases l <;> rfl
theorem h_setc : setl (x :: l) 0 (v :: vs) = consO v (setl l 0 vs) := nr rfl
theorem h_sets : setl (x :: l) (k + 1) (v :: vs) = consO x (setl l k (v :: vs)) := nr rfl
theorem h_setO : setO (some l) k vs = setl l k vs := nr rfl
theorem h_putO : putO G b (some l) = some (G.put b (some l)) := nr rfl
end
/-- A value's cells, if they are so many. -/
def cellN (v : Value) (n : Nat) : Option (List Value) := if isA v = true ∧ v.cells.size = n then some v.cells.toList else none
def setV (o : Option Blk) (k : Nat) (vs : Option (List Value)) : Option Blk :=
  match vs with
  | some vs => setO o k vs
  | none => none
theorem store_ptV {T : Tab} {e : TypeId} {j : TI} (he : T.ty e = some j) (b k : Nat) (v : Value) (G : AH) (hro : G.ro ≤ b) : astore T e (.pointer (some ⟨b, k, none⟩)) v G = putO G b (setV (G.get b) k (cellN v j.size)) := by
  unfold cellN
  split
  · rename_i h; exact store_pt he b k v G hro h.1 h.2
  · rename_i h
    simp only [astore, he, setV, putO]
    cases G.get b with
    | none => rfl
    | some l =>
      simp only
      rw [if_neg]
      intro h2
      simp only [Bool.and_eq_true, beq_iff_eq, decide_eq_true_eq] at h2
      exact h ⟨h2.1.1.2, h2.1.2⟩
section
variable {x v w y : Value} {l vs : List Value} {G : AH} {b k : Nat} {o : Option Blk}
theorem h_setV : setV o k (some vs) = setO o k vs := nr rfl
theorem cN_int {k : IntKind} {i : Int} : cellN (.int k i) 1 = some [.int k i] := nr rfl
theorem cN_bool {b : Bool} : cellN (.bool b) 1 = some [.bool b] := nr rfl
theorem cN_str {b : ByteArray} : cellN (.string b) 1 = some [.string b] := nr rfl
theorem cN_ptr {a : Option Addr} : cellN (.pointer a) 1 = some [.pointer a] := nr rfl
theorem cN_slice {a : Option Addr} {n c : Nat} : cellN (.slice a n c) 1 = some [.slice a n c] := nr rfl
theorem cN_fn {f : Fn} {a c : Array Value} : cellN (.func f a c) 1 = some [.func f a c] := nr rfl
theorem cN_agg2 : cellN (.agg #[v, w]) 2 = some [v, w] := nr rfl
theorem cN_agg3 : cellN (.agg #[v, w, x]) 3 = some [v, w, x] := nr rfl
theorem cN_agg4 : cellN (.agg #[v, w, x, y]) 4 = some [v, w, x, y] := nr rfl
end
attribute [go_sem] h_setV cN_int cN_bool cN_str cN_ptr cN_slice cN_fn cN_agg2 cN_agg3 cN_agg4
attribute [go_sem] h_nth h_agg2 h_agg4 h_cons h_set0 h_setc h_sets h_setO h_putO
end Go.Ab
namespace Go.Ab
theorem callW_gen {T : Tab} {lo : List Nat} {dst : Option Nat} {o : Option (FuncId × List Value)} {H : AH} {F : AH → Kont} {V : List Value} {A : List (Nat × Value)} (h : ∀ G, G = H → callW T lo dst o G F V A) : callW T lo dst o H F V A := h H rfl
theorem Sat_gen {T : Tab} {lo : List Nat} {nt : Nat} {pt : List (Nat × List (Nat × Nat))} {rs : List ResultVar} {Q : Value → AH → Prop} {p : Ph} {H : AH} {V : List Value} {A : List (Nat × Value)} (h : ∀ G, G = H → Sat T lo nt pt rs Q p G V A) : Sat T lo nt pt rs Q p H V A := h H rfl
end Go.Ab
namespace Go.Ab
def pickB (b : Bool) (x y : Option Blk) : Option Blk := if b then x else y
def eqB (a b : Nat) : Bool := decide (a = b)
def ltB (a b : Nat) : Bool := decide (a < b)
section
variable {H : AH} {a b c : Nat} {x : Blk} {o p : Option Blk}
theorem pickB_t : pickB true o p = o := nr rfl
theorem pickB_f : pickB false o p = p := nr rfl
theorem eqB_t (h : a = b) : eqB a b = true := by simp [eqB, h]
theorem eqB_f (h : a ≠ b) : eqB a b = false := by simp [eqB, h]
theorem ltB_t (h : a < b) : ltB a b = true := by simp [ltB, h]
theorem get_pushB : (H.push x).get c = pickB (eqB c H.size) (some x) (H.get c) := by
  rw [AH.get_push]; by_cases h : c = H.size <;> simp [pickB, eqB, h]
theorem get_putB : (H.put b o).get c = pickB (eqB c b) (pickB (ltB b H.size) o none) (H.get c) := by
  rw [AH.get_putA]; by_cases h : c = b <;> by_cases h2 : b < H.size <;> simp [pickB, eqB, ltB, h, h2]
theorem get_put_ne (h : c ≠ b) : (H.put b o).get c = H.get c := by rw [AH.get_putA, if_neg h]
end
/-- Own memory stays so while other blocks are written. -/
theorem Own.put {H0 H H1 : AH} {sz n : Nat} {v : Value} {xs : List Value} (h : Own H0 H sz v n xs) (hE : Ext H H1) {b : Nat} (hb : b < H.size → H.get b ≠ some xs ∨ True) (o : Option Blk) (hbs : b < H0.size) : Own H0 (H1.put b o) sz v n xs := by
  cases h with
  | nil => exact .nil
  | mk c n xs hc hro hr hg hl hn =>
    refine .mk c n xs hc hro (hE.ro.trans hr) ?_ hl hn
    rw [get_put_ne (by omega)]
    exact hE.get _ _ hg
end Go.Ab
namespace Go.Ab
def leB (a b : Nat) : Bool := decide (a ≤ b)
def roO (c : Bool) (o : Option AH) : Option AH := if c then o else none
theorem leB_t {a b : Nat} (h : a ≤ b) : leB a b = true := by simp [leB, h]
theorem roO_t {o : Option AH} : roO true o = o := nr rfl
theorem store_ptR {T : Tab} {e : TypeId} {j : TI} (he : T.ty e = some j) (b k : Nat) (v : Value) (G : AH) : astore T e (.pointer (some ⟨b, k, none⟩)) v G = roO (leB G.ro b) (putO G b (setV (G.get b) k (cellN v j.size))) := by
  by_cases h : G.ro ≤ b
  · rw [leB_t h, roO_t]; exact store_ptV he b k v G h
  · have : leB G.ro b = false := by simp [leB, h]
    rw [this]
    simp only [astore, he, roO, Bool.false_eq_true, if_false]
    cases G.get b with
    | none => rfl
    | some l => simp [h]
attribute [go_sem] roO_t
end Go.Ab
namespace Go.Ab
/-- A slice that does not lie in a block. -/
def Off (c : Nat) (v : Value) : Prop := ∀ a n k, v = .slice (some a) n k → a.block ≠ c
theorem Own.append_off {T : Tab} {t e : TypeId} {sz : Nat} (hT : STy T t e sz) {H0 H : AH} {n m : Nat} {v x : Value} {xs ys : List Value} (h : Own H0 H sz v n xs) (h0 : H0.ro ≤ H0.size) (hE : Ext H0 H)
    (hx : alenOf x = some m) (hy : afirst sz m x H = some ys) (hyl : ys.length = m * sz) (hb : (n + m) * 96 ≤ 140737488355328) :
    ∃ v' H', aappend T t t v x H = some (v', H') ∧ Own H0 H' sz v' (n + m) (xs ++ ys) ∧ Ext H0 H' ∧ H.size ≤ H'.size ∧ H'.ro = H.ro ∧ (∀ c x, Off c v → H.get c = some x → H'.get c = some x) ∧ (∀ c, c < H.size → Off c v → Off c v') := by
  obtain ⟨i, j, h1, h2, h3, h4, h5, h6, h7, h8, h9⟩ := hT.ex
  obtain ⟨desc, si, by_, ze, eq⟩ := i
  cases h2
  have hbm : ∀ k, k ≤ n + m → k * j.bytes ≤ 140737488355328 := fun k hk => Nat.le_trans (Nat.mul_le_mul hk h8) hb
  cases h with
  | nil =>
    by_cases hm : m = 0
    · subst hm
      have : ys = [] := List.eq_nil_of_length_eq_zero (by omega)
      subst this
      refine ⟨.slice none 0 0, H, ?_, .nil, hE, Nat.le_refl _, rfl, fun c x _ h => h, fun c _ h => h⟩
      subst h4
      simp [aappend, h1, h3, h5, h6, h7, hx, hy]
    · refine ⟨.slice (some ⟨H.size, 0, none⟩) m sz, H.push ys, ?_, ?_, hE.pushed _, Nat.le_succ _, rfl, fun c x _ h => (Ext.push H ys).get c x h, fun c hc _ a n k e => by cases e; simp; omega⟩
      · subst h4
        simp [aappend, h1, h3, h5, h6, h7, hx, hy, hyl, hm, hbm m (by omega)]
      · rw [Nat.zero_add, List.nil_append]
        refine .mk H.size m ys hE.size h0 hE.ro ?_ hyl (by omega)
        rw [AH.get_push, if_pos rfl]
  | mk b n xs hbb hro hr hg hl hn =>
    by_cases hm : m = 0
    · subst hm
      have : ys = [] := List.eq_nil_of_length_eq_zero (by omega)
      subst this
      refine ⟨.slice (some ⟨b, 0, none⟩) n sz, H, ?_, by rw [List.append_nil]; exact .mk b n xs hbb hro hr hg hl hn, hE, Nat.le_refl _, rfl, fun c x _ h => h, fun c _ h => h⟩
      subst h4
      simp [aappend, h1, h3, h5, h6, h7, hx, hy]
    · have hbs := AH.lt_of_get hg
      refine ⟨.slice (some ⟨H.size, 0, none⟩) (n + m) sz, (H.put b none).push (xs ++ ys), ?_, ?_, ?_, Nat.le_succ _, rfl, fun c x hc h => ?_, fun c hc _ a n k e => by cases e; simp; omega⟩
      · subst h4
        have hle : n * j.size ≤ xs.length := by omega
        have htk : xs.take (n * j.size) = xs := List.take_of_length_le (by omega)
        have hrb : H.ro ≤ b := by omega
        simp [aappend, h1, h3, h5, h6, h7, hx, hy, hyl, hm, hg, hrb, hle, hbm (n + m) (by omega), htk]
      · refine .mk H.size (n + m) (xs ++ ys) hE.size h0 hE.ro ?_ (by rw [List.length_append, hl, hyl, Nat.add_mul]) (by omega)
        rw [AH.get_push]; simp
      · exact (hE.put hbb hbs none).pushed _
      · have hcb : c ≠ b := fun e => hc _ _ _ rfl e.symm
        have hcs := AH.lt_of_get h
        rw [AH.get_push, if_neg (by simp; omega), get_put_ne hcb]
        exact h
/-- An own slice while another one grows. -/
theorem Own.keep {H0 H H' : AH} {sz n : Nat} {v w : Value} {xs : List Value} (h : Own H0 H sz v n xs) (hr : H'.ro = H.ro) (hk : ∀ c x, Off c w → H.get c = some x → H'.get c = some x) (ho : ∀ a n k, v = .slice (some a) n k → Off a.block w) : Own H0 H' sz v n xs := by
  cases h with
  | nil => exact .nil
  | mk b n xs hb hro hr' hg hl hn => exact .mk b n xs hb hro (hr.trans hr') (hk _ _ (ho _ _ _ rfl) hg) hl hn
theorem Own.blk {H0 H : AH} {sz n : Nat} {v : Value} {xs : List Value} (h : Own H0 H sz v n xs) : ∀ a m k, v = .slice (some a) m k → H0.size ≤ a.block ∧ a.block < H.size := by
  intro a m k e
  cases h with
  | nil => cases e
  | mk b n xs hb hro hr hg hl hn => cases e; exact ⟨hb, AH.lt_of_get hg⟩
theorem Own.off {H0 H : AH} {sz n : Nat} {v : Value} {xs : List Value} (h : Own H0 H sz v n xs) {c : Nat} (hc : H.size ≤ c) : Off c v := by
  intro a m k e h2
  have := (h.blk a m k e).2
  omega
end Go.Ab
namespace Go.Ab
/-- An own slice while another block is written. -/
theorem Own.fr {H0 H H' : AH} {sz n b : Nat} {v : Value} {xs : List Value} (h : Own H0 H sz v n xs) (hF : Fr b H H') (ho : Off b v) : Own H0 H' sz v n xs := by
  cases h with
  | nil => exact .nil
  | mk c n xs hb hro hr' hg hl hn => exact .mk c n xs hb hro (hF.ro.trans hr') (hF.get _ _ (ho _ _ _ rfl) hg) hl hn
end Go.Ab
