/- How the memory of a call's argument is laid into the abstract heap. -/
import Derived.ChangeArms
import Derived.ChangeOld
import Derived.SizedLaws
import Derived.Below
import Derived.Test.YtbifnbkphenncaaP1
set_option linter.unusedVariables false
set_option linter.unusedSimpArgs false
namespace Go.Ab

/-- Plain data: what cells stand for. -/
inductive Dt where
  | b (x : Bool)
  | i (k : IntKind) (n : Int)
  | s (x : ByteArray)
  | sl (l : List Dt)
  | st (l : List Dt)
/-- What cells of a type stand for in an abstract heap. -/
def Rep (T : Tab) : Nat → TypeId → AH → (Nat → Option Value) → Dt → Prop
  | 0, _, _, _, _ => False
  | n + 1, t, H, f, d =>
    match T.ty t with
    | none => False
    | some i => match i.desc, d with
      | .bool, .b x => f 0 = some (.bool x)
      | .int k, .i k' z => k' = k ∧ (Lit.int k z).wf = true ∧ f 0 = some (.int k z)
      | .string, .s x => x.size ≤ reachBytes ∧ f 0 = some (.string x)
      | .slice e, .sl l => ∃ v j, T.ty e = some j ∧ f 0 = some v ∧ l.length * j.bytes ≤ reachBytes ∧ Sl j.size (Rep T n e) H v l
      | .struct fs, .st l => l.length = fs.size ∧ ∀ (q : Nat) (fd : Field) (x : Dt), fs[q]? = some fd → l[q]? = some x → Rep T n fd.type H (fun k => f (fd.offset + k)) x
      | _, _ => False
/-- Fields side by side. -/
def contig (T : Tab) : Nat → List Field → Nat → Bool
  | off, [], total => decide (off = total)
  | off, f :: fs, total => match T.ty f.type with
    | some j => decide (f.offset = off) && contig T (off + j.size) fs total
    | none => false
def layT (T : Tab) : Nat → TypeId → Bool
  | 0, _ => false
  | m + 1, t => match T.ty t with
    | none => false
    | some i => match i.desc with
      | .bool => true
      | .int _ => true
      | .string => true
      | .slice e => match T.ty e with
        | some j => !(decide (j.size = 0)) && !(decide (j.bytes = 0)) && layT T m e
        | none => false
      | .struct fs => contig T 0 fs.toList i.size && fs.toList.all fun f => layT T m f.type
      | _ => false

structure Mo (H H' : AH) : Prop where
  size : H.size ≤ H'.size
  get : ∀ b x, H.get b = some x → H'.get b = some x
theorem Mo.refl (H : AH) : Mo H H := ⟨Nat.le_refl _, fun _ _ h => h⟩
theorem Mo.trans {a b c : AH} (h : Mo a b) (k : Mo b c) : Mo a c := ⟨Nat.le_trans h.size k.size, fun i x e => k.get i x (h.get i x e)⟩
theorem Mo.ext {a b : AH} (h : Ext a b) : Mo a b := ⟨h.size, h.get⟩
theorem cell_mo {H H' : AH} (h : Mo H H') {a : Option Addr} {c i k : Nat} {v : Value} (e : cell H a c i k = some v) : cell H' a c i k = some v := by
  unfold cell at e ⊢
  split at e
  · rename_i b off
    split at e
    · rename_i blk hb; rw [h.get _ _ hb]; exact e
    · cases e
  · cases e
theorem Sl.mo {α : Type} {sz : Nat} {R : AH → (Nat → Option Value) → α → Prop} {H H' : AH} {v : Value} {l : List α} (hR : ∀ f g x, (∀ k v, f k = some v → g k = some v) → R H f x → R H' g x) (hE : Mo H H') (h : Sl sz R H v l) : Sl sz R H' v l := by
  obtain ⟨a, c, e, hw, hc⟩ := h.ex
  exact ⟨h.bd, a, c, e, hw, fun i x hx => hR _ _ _ (fun k v e => cell_mo hE e) (hc i x hx)⟩
theorem Rep.mo {T : Tab} : ∀ (n : Nat) (t : TypeId) {H H' : AH} {f g : Nat → Option Value} {d : Dt}, Mo H H' → (∀ k v, f k = some v → g k = some v) → Rep T n t H f d → Rep T n t H' g d
  | 0, t, H, H', f, g, d, hE, hf, h => by simp [Rep] at h
  | n + 1, t, H, H', f, g, d, hE, hf, h => by
    unfold Rep at h ⊢
    split at h
    · exact h
    · rename_i i hi
      split at h
      · exact hf _ _ h
      · exact ⟨h.1, h.2.1, hf _ _ h.2.2⟩
      · exact ⟨h.1, hf _ _ h.2⟩
      · obtain ⟨v, j, h1, h2, h3, h4⟩ := h
        exact ⟨v, j, h1, hf _ _ h2, h3, h4.mo (fun f g x hk hr => Rep.mo n _ hE hk hr) hE⟩
      · exact ⟨h.1, fun q fd x h1 h2 => Rep.mo n _ hE (fun k v e => hf _ _ e) (h.2 q fd x h1 h2)⟩
      · exact h

def AH.grow (H : AH) (x : Blk) : AH := ⟨H.size + 1, H.tree.lay H.size (some x), H.size + 1⟩
theorem AH.get_grow (H : AH) (x : Blk) (c : Nat) : (H.grow x).get c = if c = H.size then some x else H.get c := AH.get_push H x c
theorem Mo.grow (H : AH) (x : Blk) : Mo H (H.grow x) :=
  ⟨Nat.le_succ _, fun b y h => by rw [AH.get_grow, if_neg (Nat.ne_of_lt (AH.lt_of_get h))]; exact h⟩
/-- An abstract heap of memory that was there at the call. -/
structure LInv (w : World) (φ : Phi) (H : AH) : Prop where
  inv : Inv (fun k => k < w.heap.size) φ H w
  ro : H.ro = H.size
theorem LInv.empty (w : World) : LInv w (fun _ => none) AH.empty := by
  refine ⟨⟨⟨(fun b p h => by cases h), fun b x h => ?_, fun b x p h => ?_, fun b c x p q h => ?_, fun k h => h⟩, (fun b p h => by cases h), Nat.le_refl _, fun c h => ?_⟩, rfl⟩
  · have := AH.lt_of_get h; simp [AH.empty] at this
  · have := AH.lt_of_get h; simp [AH.empty] at this
  · have := AH.lt_of_get h; simp [AH.empty] at this
  · simp [AH.empty] at h
theorem LInv.grow {w : World} {φ : Phi} {H : AH} (h : LInv w φ H) (p : Pl) (x : Blk) (hp : p.B < w.heap.size) (hx : x.length ≤ p.cap) (hc : ∀ (i : Nat) (v : Value), x[i]? = some v → ∃ v', w.cell? ⟨p.B, p.o + i, none⟩ = some v' ∧ SRel φ v v') :
    LInv w (φ.add H.size p) (H.grow x) ∧ φ.le (φ.add H.size p) := by
  have hle : φ.le (φ.add H.size p) := fun b q e => by
    have := h.inv.dom b q e
    simp only [Phi.add]; rw [if_neg (by omega)]; exact e
  refine ⟨⟨⟨⟨fun b q e => ?_, fun b y e => ?_, fun b y q e hb => ?_, fun b c y q r e hb => ?_, fun k hk => hk⟩, fun b q e => ?_, Nat.le_refl _, fun c hcc => ?_⟩, rfl⟩, hle⟩
  · simp only [Phi.add] at e
    split at e
    · cases e; exact hp
    · exact h.inv.low b q e
  · rw [AH.get_grow] at e
    split at e
    · rename_i hb
      cases e
      refine ⟨p, by simp [Phi.add, hb], hx, fun i v hv => ?_⟩
      obtain ⟨v', h1, h2⟩ := hc i v hv
      exact ⟨v', h1, h2.mono hle⟩
    · obtain ⟨q, h1, h2, h3⟩ := h.inv.live b y e
      refine ⟨q, hle _ _ h1, h2, fun i v hv => ?_⟩
      obtain ⟨v', h4, h5⟩ := h3 i v hv
      exact ⟨v', h4, h5.mono hle⟩
  · have h1 := AH.lt_of_get e
    have h2 : (H.grow x).size = H.size + 1 := rfl
    have h3 : (H.grow x).ro = H.size + 1 := rfl
    omega
  · have h1 := AH.lt_of_get e
    have h2 : (H.grow x).size = H.size + 1 := rfl
    have h3 : (H.grow x).ro = H.size + 1 := rfl
    omega
  · have h2 : (H.grow x).size = H.size + 1 := rfl
    simp only [Phi.add] at e
    split at e
    · omega
    · have := h.inv.dom b q e; omega
  · have h3 : (H.grow x).ro = H.size + 1 := rfl
    by_cases hcs : c = H.size
    · exact ⟨p, by simp [Phi.add, hcs]⟩
    · obtain ⟨q, hq⟩ := h.inv.rom c (by rw [h.ro]; omega)
      exact ⟨q, hle _ _ hq⟩

theorem weights_mem_all {K : Type} {P : Program} {e : TypeId} : ∀ {ds : List (DataW K)} {j : Nat} {d : DataW K}, ds[j]? = some d → ∀ n ∈ d.weights P e, n ∈ DataW.weightsAll P e ds
  | d0 :: ds, 0, d, hd, n, hn => by
    simp only [List.getElem?_cons_zero, Option.some.injEq] at hd
    subst hd
    simp only [DataW.weightsAll, List.mem_append]
    exact Or.inl hn
  | d0 :: ds, j + 1, d, hd, n, hn => by
    simp only [List.getElem?_cons_succ] at hd
    simp only [DataW.weightsAll, List.mem_append]
    exact Or.inr (weights_mem_all hd n hn)
  | [], _, _, hd, _, _ => by simp at hd

section
variable {K : Type} {enc : TypeId × Value → K} {P : Program} {T : Tab} (hT : T.Ok P) {w : World}
/-- What is to be shown of a type's values. -/
def LayOk (enc : TypeId × Value → K) (P : Program) (T : Tab) (w : World) (m : Nat) (t : TypeId) : Prop :=
  ∀ (fuel : Nat) (cs : List Value) (d : DataW K) (ps : List MemPlace), DataW.trod enc P w 0 (fun _ => true) true fuel t cs = some (d, ps) → (∀ n ∈ d.weights P t, n ≤ reachBytes) →
    ∀ φ H, LInv w φ H → ∃ (φ' : Phi) (H' : AH) (xs : List Value) (dt : Dt), φ.le φ' ∧ Mo H H' ∧ LInv w φ' H' ∧ CRel φ' xs cs ∧ Rep T m t H' (fun k => xs[k]?) dt
include hT
theorem cellsOf_tab {t : TypeId} {i : TI} (h : T.ty t = some i) : P.cellsOf t = i.size ∧ P.bytesOf t = i.bytes := by
  obtain ⟨_, inf, h1, h2, h3, _⟩ := hT.ty t i h
  simp [Program.cellsOf, Program.bytesOf, h1, h2, h3]
/-- A struct's fields, from one on. -/
theorem lay_fields {m n : Nat} {cs : List Value} : ∀ (fl : List Field) (off : Nat), contig T off fl cs.length = true → (∀ f ∈ fl, LayOk enc P T w m f.type) →
    (∀ f ∈ fl, ∃ x, DataW.trod enc P w 0 (fun _ => true) true n f.type ((cs.drop f.offset).take (P.cellsOf f.type)) = some x ∧ ∀ k ∈ x.1.weights P f.type, k ≤ reachBytes) →
    ∀ φ H, LInv w φ H → ∃ (φ' : Phi) (H' : AH) (ys : List Value) (ds : List Dt), φ.le φ' ∧ Mo H H' ∧ LInv w φ' H' ∧ CRel φ' ys (cs.drop off) ∧ ds.length = fl.length ∧ off ≤ cs.length ∧ (∀ f ∈ fl, off ≤ f.offset) ∧
      ∀ (q : Nat) (fd : Field) (x : Dt), fl[q]? = some fd → ds[q]? = some x → Rep T m fd.type H' (fun k => ys[fd.offset - off + k]?) x
  | [], off, hc, hL, ht, φ, H, hI => by
    simp only [contig, decide_eq_true_eq] at hc
    subst hc
    exact ⟨φ, H, [], [], Phi.le.refl _, Mo.refl _, hI, by simp [CRel.nil], rfl, Nat.le_refl _, fun f hf => by simp at hf, fun q fd x h => by simp at h⟩
  | f :: fl, off, hc, hL, ht, φ, H, hI => by
    simp only [contig] at hc
    split at hc
    · rename_i j hj
      simp only [Bool.and_eq_true, decide_eq_true_eq] at hc
      obtain ⟨rfl, hc⟩ := hc
      obtain ⟨x, hx, hw⟩ := ht f (by simp)
      obtain ⟨φ1, H1, xs, dt, hl1, hm1, hI1, hR1, hr1⟩ := hL f (by simp) n _ x.1 x.2 hx hw φ H hI
      obtain ⟨φ2, H2, ys, ds, hl2, hm2, hI2, hR2, hn2, ho2, hof, hr2⟩ := lay_fields fl (f.offset + j.size) hc (fun g hg => hL g (by simp [hg])) (fun g hg => ht g (by simp [hg])) φ1 H1 hI1
      have hcs := (cellsOf_tab hT hj).1
      rw [hcs] at hR1
      have hxl : xs.length = j.size := by rw [hR1.1]; simp; omega
      refine ⟨φ2, H2, xs ++ ys, dt :: ds, hl1.trans hl2, hm1.trans hm2, hI2, ?_, by simp [hn2], by omega, ?_, ?_⟩
      · have e : cs.drop f.offset = (cs.drop f.offset).take j.size ++ cs.drop (f.offset + j.size) := by
          rw [← List.drop_drop, List.take_append_drop]
        rw [e]
        exact (hR1.mono hl2).append hR2
      · intro g hg
        simp only [List.mem_cons] at hg
        rcases hg with rfl | hg
        · exact Nat.le_refl _
        · have := hof g hg; omega
      · intro q fd y h1 h2
        cases q with
        | zero =>
          simp only [List.getElem?_cons_zero, Option.some.injEq] at h1 h2
          subst h1; subst h2
          refine Rep.mo m _ hm2 (fun k v e => ?_) hr1
          rw [show f.offset - f.offset + k = k by omega, List.getElem?_append_left (List.getElem?_eq_some_iff.1 e).1]
          exact e
        | succ q =>
          simp only [List.getElem?_cons_succ] at h1 h2
          have h3 := hof fd (List.mem_of_getElem? h1)
          refine Rep.mo m _ (Mo.refl _) (fun k v e => ?_) (hr2 q fd y h1 h2)
          rw [List.getElem?_append_right (by omega), hxl, show fd.offset - f.offset + k - j.size = fd.offset - (f.offset + j.size) + k by omega]
          exact e
    · cases hc
omit hT in
theorem addr_add2 {a : Addr} (hs : a.spot = none) (p q : Nat) : (a.add p).add q = ⟨a.block, a.off + (p + q), none⟩ := by
  obtain ⟨b, o, s⟩ := a
  cases hs
  unfold Addr.add
  split <;> split <;> simp_all <;> omega
/-- A slice's elements, up to one. -/
theorem lay_elems {m n : Nat} {e : TypeId} {j : TI} (hj : T.ty e = some j) (hL : LayOk enc P T w m e) {a : Addr} (hs : a.spot = none) {els : List (DataW K × List MemPlace)} 
    (hel : ∀ i, i < els.length → (w.cells? 0 (a.add (i * P.cellsOf e)) (P.cellsOf e)).bind (DataW.trod enc P w 0 (fun _ => true) true n e) = els[i]?) (hw : ∀ i (h : i < els.length), ∀ k ∈ els[i].1.weights P e, k ≤ reachBytes) :
    ∀ z, z ≤ els.length → ∀ φ H, LInv w φ H → ∃ (φ' : Phi) (H' : AH) (xs : List Value) (ds : List Dt), φ.le φ' ∧ Mo H H' ∧ LInv w φ' H' ∧ xs.length = z * j.size ∧ (∀ (q : Nat) (v : Value), xs[q]? = some v → ∃ v', w.cell? ⟨a.block, a.off + q, none⟩ = some v' ∧ SRel φ' v v') ∧ ds.length = z ∧
      ∀ (i : Nat) (x : Dt), ds[i]? = some x → Rep T m e H' (fun k => xs[i * j.size + k]?) x := by
  intro z
  induction z with
  | zero => intro _ φ H hI; exact ⟨φ, H, [], [], Phi.le.refl _, Mo.refl _, hI, by simp, fun q v h => by simp at h, rfl, fun i x h => by simp at h⟩
  | succ z ih =>
    intro hz φ H hI
    obtain ⟨φ1, H1, xs, ds, hl1, hm1, hI1, hxl, hR1, hdl, hr1⟩ := ih (by omega) φ H hI
    have hcs := (cellsOf_tab hT hj).1
    have h1 := hel z (by omega)
    rw [List.getElem?_eq_getElem (by omega), Option.bind_eq_some_iff] at h1
    obtain ⟨cs, h2, h3⟩ := h1
    obtain ⟨_, hcl, hcc⟩ := World.cells?_some h2
    rw [hcs] at hcl hcc
    obtain ⟨φ2, H2, ys, dt, hl2, hm2, hI2, hR2, hr2⟩ := hL n cs _ _ h3 (hw z (by omega)) φ1 H1 hI1
    have hyl : ys.length = j.size := by rw [hR2.1, hcl]
    refine ⟨φ2, H2, xs ++ ys, ds ++ [dt], hl1.trans hl2, hm1.trans hm2, hI2, by simp [hxl, hyl, Nat.succ_mul], ?_, by simp [hdl], ?_⟩
    · intro q v hv
      by_cases hq : q < xs.length
      · rw [List.getElem?_append_left hq] at hv
        obtain ⟨v', h4, h5⟩ := hR1 q v hv
        exact ⟨v', h4, h5.mono hl2⟩
      · rw [List.getElem?_append_right (by omega)] at hv
        obtain ⟨v', h4, h5⟩ := hR2.2 _ v hv
        have hlt := (List.getElem?_eq_some_iff.1 hv).1
        rw [← hcc _ (by omega), addr_add2 hs, hxl] at h4
        refine ⟨v', ?_, h5⟩
        rw [show a.off + q = a.off + (z * j.size + (q - z * j.size)) by omega]
        exact h4
    · intro i x hx
      by_cases hi : i < z
      · rw [List.getElem?_append_left (by omega)] at hx
        refine Rep.mo m _ hm2 (fun k v e => ?_) (hr1 i x hx)
        rw [List.getElem?_append_left (List.getElem?_eq_some_iff.1 e).1]
        exact e
      · have hiz : i = z := by
          have := (List.getElem?_eq_some_iff.1 hx).1
          simp at this; omega
        subst hiz
        rw [List.getElem?_append_right (by omega), hdl, Nat.sub_self] at hx
        simp only [List.getElem?_cons_zero, Option.some.injEq] at hx
        subst hx
        refine Rep.mo m _ (Mo.refl _) (fun k v e => ?_) hr2
        rw [List.getElem?_append_right (by omega), hxl, show i * j.size + k - i * j.size = k by omega]
        exact e
theorem lay_val : ∀ (m : Nat) (t : TypeId), layT T m t = true → LayOk enc P T w m t
  | 0, t, h => by simp [layT] at h
  | m + 1, t, hl => by
    intro fuel cs d ps ht hw φ H hI
    unfold layT at hl
    split at hl
    · cases hl
    · rename_i i hi
      obtain ⟨hu, _⟩ := hT.ty t i hi
      obtain ⟨desc, si, by_, ze, eq⟩ := i
      simp only at hu hl
      split at hl
      · obtain ⟨x, rfl, hx⟩ := DataW.trod_bool hu ht
        exact ⟨φ, H, [.bool x], .b x, Phi.le.refl _, Mo.refl _, hI, CRel.cons (.bool x) (CRel.nil _), by simp [Rep, hi]⟩
      · rename_i k _
        obtain ⟨x, rfl, hx, hwf⟩ := DataW.trod_int hu ht
        exact ⟨φ, H, [.int k x], .i k x, Phi.le.refl _, Mo.refl _, hI, CRel.cons (.int k x) (CRel.nil _), by simp [Rep, hi, hwf]⟩
      · obtain ⟨x, rfl, hx, hsz⟩ := DataW.trod_string hu ht
        cases hx
        have : x.size ≤ reachBytes := hw x.size (by simp [DataW.weights])
        exact ⟨φ, H, [.string x], .s x, Phi.le.refl _, Mo.refl _, hI, CRel.cons (.string x) (CRel.nil _), by simp [Rep, hi, this]⟩
      · rename_i e _
        split at hl
        · rename_i j hj
          simp only [Bool.and_eq_true, Bool.not_eq_true', decide_eq_false_iff_not] at hl
          obtain ⟨⟨hs0, hb0⟩, hle⟩ := hl
          have ⟨hcs, hbs⟩ := cellsOf_tab hT hj
          rcases DataW.trod_slice hu ht with ⟨rfl, hx⟩ | ⟨a, len, cap, elems, rest, n, rfl, rfl, hx, hba, hlc, hcm, hel, hE, hS, _⟩
          · refine ⟨φ, H, [.slice none 0 0], .sl [], Phi.le.refl _, Mo.refl _, hI, CRel.cons .snil (CRel.nil _), ?_⟩
            simp only [Rep, hi]
            exact ⟨_, j, hj, rfl, by simp, Sl.nil _ _ _⟩
          · cases hx
            by_cases hc0 : cap = 0
            · subst hc0
              obtain rfl : len = 0 := by omega
              refine ⟨φ, H, [.slice (some ⟨0, 0, some 0⟩) 0 0], .sl [], Phi.le.refl _, Mo.refl _, hI, CRel.cons (.sle a) (CRel.nil _), ?_⟩
              simp only [Rep, hi]
              exact ⟨_, j, hj, rfl, by simp, by simp, some ⟨0, 0, some 0⟩, 0, rfl, .emp _, fun i x h => by simp at h⟩
            · obtain ⟨hrl, hR⟩ := hS rfl
              have hfirst : ∃ l, w.cells? 0 (a.add (0 * P.cellsOf e)) (P.cellsOf e) = some l := by
                by_cases hl0 : len = 0
                · have h1 := hR 0 (by omega)
                  rw [hl0, List.getElem?_eq_getElem (by omega), Option.bind_eq_some_iff] at h1
                  obtain ⟨l, h2, _⟩ := h1
                  exact ⟨l, h2⟩
                · have h1 := hE 0 (by omega)
                  rw [List.getElem?_eq_getElem (by omega), Option.bind_eq_some_iff] at h1
                  obtain ⟨l, h2, _⟩ := h1
                  exact ⟨l, h2⟩
              obtain ⟨l, hfl⟩ := hfirst
              obtain ⟨_, hll, hlc2⟩ := World.cells?_some hfl
              rw [hcs] at hll hlc2
              have hc1 := hlc2 0 (by omega)
              rw [List.getElem?_eq_getElem (by omega)] at hc1
              simp only [Nat.zero_mul, Addr.add, if_true] at hc1
              have hsp : a.spot = none ∧ a.block < w.heap.size := by
                unfold World.cell? at hc1
                split at hc1
                · rename_i c _ _ hh
                  split at hc1
                  · cases hc1
                  · rename_i hsp
                    exact ⟨by simpa using hsp, (Array.getElem?_eq_some_iff.1 hh).1⟩
                · cases hc1
              have hww : ∀ k ∈ DataW.weights P t (.slice (elems.map (·.1)) (rest.map (·.1))), k ≤ reachBytes := hw
              simp only [DataW.weights, hu, List.mem_cons, List.mem_append, List.length_map] at hww
              have hwl := hww _ (.inl rfl)
              subst hel
              obtain ⟨φ1, H1, xs, ds, hl1, hm1, hI1, hxl, hR1, hdl, hr1⟩ := lay_elems (n := n) (els := elems) hT hj (lay_val m e hle) hsp.1 hE (fun i h k hk => hww k (.inr (.inl (weights_mem_all (j := i) (by simp [h]) k hk)))) elems.length (Nat.le_refl _) φ H hI
              obtain ⟨hI2, hl2⟩ := hI1.grow ⟨a.block, a.off, cap * j.size⟩ xs hsp.2 (by rw [hxl]; exact Nat.mul_le_mul_right _ hlc) hR1
              have hbb : elems.length * j.bytes ≤ reachBytes := by
                rw [hbs] at hwl
                exact Nat.le_trans (Nat.mul_le_mul_right _ (by omega)) hwl
              have hlb : elems.length ≤ reachBytes := Nat.le_trans (Nat.le_mul_of_pos_right _ (by omega)) hbb
              refine ⟨_, _, [.slice (some ⟨H1.size, 0, none⟩) elems.length j.size], .sl ds, hl1.trans hl2, hm1.trans (Mo.grow _ _), hI2, ?_, ?_⟩
              · refine CRel.cons ?_ (CRel.nil _)
                have hsl := SRel.sl (φ := φ1.add H1.size ⟨a.block, a.off, cap * j.size⟩) (b := H1.size) (off := 0) (len := elems.length) (sz := j.size) (cap := cap) (p := ⟨a.block, a.off, cap * j.size⟩) (by simp [Phi.add]) hlc (by simpa [maxLen] using hcm) (by omega) (by simp)
                obtain ⟨ab, ao, asp⟩ := a
                cases hsp.1
                exact hsl
              · simp only [Rep, hi]
                refine ⟨_, j, hj, rfl, by rw [hdl]; exact hbb, ?_, some ⟨H1.size, 0, none⟩, j.size, by rw [hdl], .some _ _ _ _, fun i x hx => ?_⟩
                · have : reachBytes ≤ 281474976710656 := by decide
                  omega
                · refine Rep.mo m _ (Mo.grow _ _) (fun k v e => ?_) (hr1 i x hx)
                  simp only [cell, AH.get_grow, if_true, Nat.zero_add]
                  exact e
        · cases hl
      · rename_i fs _
        simp only [Bool.and_eq_true, List.all_eq_true] at hl
        obtain ⟨xs, n, rfl, hx, hcl, hxl, hxe⟩ := DataW.trod_struct hu ht
        cases hx
        rw [(cellsOf_tab hT hi).1] at hcl
        simp only at hcl
        have hww : ∀ k ∈ DataW.weights P t (.agg (xs.map (·.1))), k ≤ reachBytes := hw
        simp only [DataW.weights, hu] at hww
        obtain ⟨φ', H', ys, ds, h1, h2, h3, h4, h5, h6, h7, h8⟩ := lay_fields (n := n) (cs := cs) (m := m) hT fs.toList 0 (by rw [hcl]; exact hl.1) (fun f hf => lay_val m f.type (hl.2 f hf)) (fun f hf => by
          obtain ⟨q, hq, rfl⟩ := List.mem_iff_getElem.1 hf
          have hq' : q < fs.size := by simpa using hq
          have hfq : fs[q]? = some fs[q] := Array.getElem?_eq_getElem hq'
          have h1 := hxe q _ hfq
          rw [List.getElem?_eq_getElem (by omega)] at h1
          refine ⟨xs[q]'(by omega), by simpa using h1, fun k hk => hww k ?_⟩
          exact DataW.weights_mem_each (j := q) (t := fs[q].type) (d := (xs[q]'(by omega)).1) (by simp [hq']) (by simp [show q < xs.length by omega]) k (by simpa using hk)) φ H hI
        refine ⟨φ', H', ys, .st ds, h1, h2, h3, by simpa using h4, ?_⟩
        simp only [Rep, hi]
        refine ⟨by simpa using h5, fun q fd x e1 e2 => ?_⟩
        have := h8 q fd x (by simpa using e1) e2
        simpa using this
      · cases hl
/-- A law of one struct: what its abstract run answers, the call answers. -/
theorem law_calls (hg : ∀ g, T.glob g = false) {f : FuncId} {m : Nat} {t : TypeId} {i : TI} (hi : T.ty t = some i) {cs : Array Value} (hcs : cs.size = P.cellsOf t) {d : DataW K} {ps : List MemPlace} (hl : layT T m t = true) (hd : DataW.Trod enc P w 0 (fun _ => true) true t (.agg cs) d ps) (hw : ∀ n ∈ d.weights P t, n ≤ reachBytes)
    (hR : ∀ (H : AH) (xs : List Value) (dt : Dt), H.ro = H.size → xs.length = i.size → Rep T m t H (fun k => xs[k]?) dt → Runs T f [.agg xs.toArray] H (fun r _ => r = .bool true)) :
    Calls P f #[.agg cs] w fun e w' => e = .returned (.bool true) ∧ RowKit.Below w.heap.size w w' := by
  obtain ⟨fuel, hf⟩ := hd
  obtain ⟨φ, H, xs, dt, _, _, hI, hc, hr⟩ := lay_val hT m t hl fuel _ d ps hf hw _ _ (LInv.empty w)
  have hxl : xs.length = i.size := by
    rw [hc.1, ← (cellsOf_tab hT hi).1, ← hcs]
    simp [Value.cells]
  obtain ⟨n, r, H', e, rfl⟩ := hR H xs dt hI.ro hxl hr
  have := arun_ok hT n f [.agg xs.toArray] H _ _ e (fun k => k < w.heap.size) φ w [.agg cs] hI.inv (fun g h => by rw [hg] at h; cases h) rfl (fun i v h => by
    cases i with
    | zero =>
      simp only [List.getElem?_cons_zero, Option.some.injEq] at h
      subst h
      exact ⟨_, rfl, .ar (.agg (by simpa using (show CRel φ xs cs.toList from hc)))⟩
    | succ i => simp at h)
  refine Calls.mono this fun e w' => ?_
  rintro ⟨r', rfl, ψ, _, hv, _, hk⟩
  refine ⟨?_, hk.os, hk.tape, hk.output, hk.size, hk.block⟩
  cases hv with
  | ar h => cases h with
    | sc h => cases h with
      | bool => rfl
      | ptr h => cases h
end
theorem Sl.conv {α β : Type} {sz : Nat} {R : AH → (Nat → Option Value) → α → Prop} {R' : AH → (Nat → Option Value) → β → Prop} {H : AH} {v : Value} {l : List α} (g : α → β) (h : Sl sz R H v l) (hR : ∀ f x, R H f x → R' H f (g x)) : Sl sz R' H v (l.map g) := by
  obtain ⟨a, c, e, hw, hc⟩ := h.ex
  refine ⟨by simpa using h.bd, a, c, by simpa using e, by simpa using hw, fun i x hx => ?_⟩
  rw [List.getElem?_map, Option.map_eq_some_iff] at hx
  obtain ⟨y, hy, rfl⟩ := hx
  exact hR _ _ (hc i y hy)
def Dt.toI : Dt → Int
  | .i _ n => n
  | _ => 0
def Dt.toS : Dt → ByteArray
  | .s x => x
  | _ => ByteArray.empty
def Dt.toL : Dt → List Dt
  | .sl l => l
  | .st l => l
  | _ => []
def Dt.ints (d : Dt) : List Int := d.toL.map Dt.toI
section
variable {T : Tab} {t e : TypeId} {i j : TI} {n : Nat} {H : AH} {f : Nat → Option Value} {d : Dt}
theorem rep_int {k : IntKind} (ht : T.ty t = some i) (hd : i.desc = .int k) (h : Rep T (n + 1) t H f d) : f 0 = some (.int k d.toI) ∧ (Lit.int k d.toI).wf = true := by
  obtain ⟨desc, si, by_, ze, eq⟩ := i
  cases hd
  simp only [Rep, ht] at h
  cases d <;> simp only at h
  exact ⟨by rw [← h.1]; rw [h.1]; exact h.2.2, h.2.1⟩
theorem rep_str (ht : T.ty t = some i) (hd : i.desc = .string) (h : Rep T (n + 1) t H f d) : f 0 = some (.string d.toS) ∧ d.toS.size ≤ reachBytes := by
  obtain ⟨desc, si, by_, ze, eq⟩ := i
  cases hd
  simp only [Rep, ht] at h
  cases d <;> simp only at h
  exact ⟨h.2, h.1⟩
theorem rep_slice (ht : T.ty t = some i) (hd : i.desc = .slice e) (he : T.ty e = some j) (h : Rep T (n + 1) t H f d) : ∃ v, f 0 = some v ∧ d.toL.length * j.bytes ≤ reachBytes ∧ Sl j.size (Rep T n e) H v d.toL := by
  obtain ⟨desc, si, by_, ze, eq⟩ := i
  cases hd
  simp only [Rep, ht] at h
  cases d <;> simp only at h
  obtain ⟨v, j', h1, h2, h3, h4⟩ := h
  rw [he] at h1
  cases h1
  exact ⟨v, h2, h3, h4⟩
theorem rep_struct {fs : Array Field} (ht : T.ty t = some i) (hd : i.desc = .struct fs) (h : Rep T (n + 1) t H f d) (q : Nat) (fd : Field) (hq : fs[q]? = some fd) : ∃ x, d.toL[q]? = some x ∧ Rep T n fd.type H (fun k => f (fd.offset + k)) x := by
  obtain ⟨desc, si, by_, ze, eq⟩ := i
  cases hd
  simp only [Rep, ht] at h
  cases d <;> simp only at h
  rename_i l
  have hl := (Array.getElem?_eq_some_iff.1 hq).1
  have hx : l[q]? = some (l[q]'(by omega)) := List.getElem?_eq_getElem _
  exact ⟨_, hx, h.2 q fd _ hq hx⟩
theorem rep_field {fs : Array Field} (ht : T.ty t = some i) (hd : i.desc = .struct fs) (h : Rep T (n + 1) t H f d) (q : Nat) {ft : TypeId} {fo : Nat} (hq : (fs[q]?.map fun f => (f.type, f.offset)) = some (ft, fo)) : ∃ x, d.toL[q]? = some x ∧ Rep T n ft H (fun k => f (fo + k)) x := by
  rw [Option.map_eq_some_iff] at hq
  obtain ⟨fd, h1, h2⟩ := hq
  cases h2
  exact rep_struct ht hd h q fd h1
/-- Slices of whole numbers. -/
theorem rep_ints (ht : T.ty t = some i) (hd : i.desc = .slice e) (he : T.ty e = some j) (hj : j.desc = .int .i64) (hs : j.size = 1) (h : Rep T (n + 2) t H f d) : ∃ v, f 0 = some v ∧ Ints H v d.ints := by
  obtain ⟨v, h1, _, h2⟩ := rep_slice ht hd he h
  rw [hs] at h2
  exact ⟨v, h1, h2.conv Dt.toI fun f x hx => (rep_int he hj hx).1⟩
end
end Go.Ab
