/- Parts of a proof about this program: contracts of its functions. -/
import Derived.KernelRfl
import Derived.Test.YtcbmnjhdeklkmaaChecked
import Derived.Test.YtcbmnjhdeklkmaaP2
/- Plain functions: what the program's and the document's functions compute. -/
set_option linter.unusedVariables false
namespace Go.Ab

abbrev w64 (x : Int) : Int := IntKind.i64.wrap x
def prodL (d : List Int) : Int := d.foldl (fun n x => w64 (n * x)) 1
def okDim (n : Int) : Bool := decide (1 ≤ n) && decide (n ≤ 8)
def mayP (d : List Int) : Bool := decide (1 ≤ d.length) && decide (d.length ≤ 3) && d.all okDim && decide (prodL d ≤ 64)
/-- The first place, or -1. -/
def firstI (p : Nat → Bool) (n : Nat) : Int := match (List.range n).find? p with
  | some i => i
  | none => -1
theorem firstI_at {p : Nat → Bool} {n i : Nat} (hi : i < n) (hp : p i = true) (hn : ∀ j, j < i → p j = false) : firstI p n = i := by
  have : (List.range n).find? p = some i := by
    rw [List.find?_range_eq_some]
    exact ⟨hp, by simpa using hi, fun j hj => by simp [hn j hj]⟩
  simp [firstI, this]
theorem firstI_none {p : Nat → Bool} {n : Nat} (hn : ∀ j, j < n → p j = false) : firstI p n = -1 := by
  have : (List.range n).find? p = none := by
    rw [List.find?_range_eq_none]
    intro j hj; simp [hn j hj]
  simp [firstI, this]
theorem firstI_ge (p : Nat → Bool) (n : Nat) : (0 ≤ firstI p n) ↔ ∃ i, i < n ∧ p i = true := by
  constructor
  · intro h
    unfold firstI at h
    split at h
    · rename_i i hi
      rw [List.find?_range_eq_some] at hi
      exact ⟨i, by simpa using hi.2.1, hi.1⟩
    · omega
  · rintro ⟨i, hi, hp⟩
    unfold firstI
    split
    · omega
    · rename_i hf
      rw [List.find?_range_eq_none] at hf
      have := hf i hi
      simp [hp] at this
theorem gi_eq {l : List Int} {i : Nat} (h : i < l.length) : gi l i = l[i] := by simp [gi, List.getD_eq_getElem?_getD, h]
theorem foldl_take_succ {α β : Type} (f : β → α → β) (b : β) (l : List α) (i : Nat) (h : i < l.length) : (l.take (i + 1)).foldl f b = f ((l.take i).foldl f b) l[i] := by
  have : l.take (i + 1) = l.take i ++ [l[i]] := by rw [List.take_append_getElem]
  rw [this, List.foldl_append]
  rfl
theorem all_any {α : Type} (l : List α) (q : α → Bool) (p : Nat → Bool) (hp : ∀ i (h : i < l.length), p i = !(q l[i])) : (∃ i, i < l.length ∧ p i = true) ↔ l.all q = false := by
  rw [List.all_eq_false]
  constructor
  · rintro ⟨i, hi, h⟩
    exact ⟨l[i], List.getElem_mem _, by rw [hp i hi] at h; simpa using h⟩
  · rintro ⟨x, hx, h⟩
    obtain ⟨i, hi, rfl⟩ := List.mem_iff_getElem.1 hx
    exact ⟨i, hi, by rw [hp i hi]; simpa using h⟩
/-- How many a kind is made of. -/
def manyP (k : Int) : Int := if k = 1 ∨ k = 2 ∨ k = 3 then 0 else if k = 4 ∨ k = 5 ∨ k = 6 ∨ k = 9 ∨ k = 16 ∨ k = 17 then 2 else 1
def namedP (k : Int) : Bool := decide (1 ≤ k ∧ k ≤ 3 ∨ 11 ≤ k ∧ k ≤ 13)
def numberP (k n : Int) : Bool := if k = 3 ∨ k = 8 then true else if k = 15 ∨ k = 17 then decide (1 ≤ n ∧ n ≤ 8) else decide (n = 0)
/-- Are a kind, a number, dims, and those of what it is made of, of their form? -/
def formP (k n : Int) (d : List Int) (l : List (List Int)) : Bool :=
  decide (1 ≤ k) && decide (k ≤ 17) && decide ((l.length : Int) = manyP k) && l.all mayP && numberP k n && (if namedP k then mayP d else decide (d = []))
def growsP (a b : List Int) : Bool := decide (a.length = b.length) && (List.range a.length).all fun i => decide (gi a i = 1) || decide (gi a i = gi b i)
def lastI (d : List Int) : Int := gi d ((d.length : Int) - 1)
def lessP (d : List Int) (n : Int) : List Int := d.set (d.length - 1) (lastI d / n)
def lessOk (d : List Int) (n : Int) : Bool := decide (lastI d % n = 0)
/-- The dims of a node's value, of what is of its form; none: they do not go together. -/
def dimsP (k n : Int) (d : List Int) (l : List (List Int)) : Option (List Int) :=
  let a := l.getD 0 []
  let b := l.getD 1 []
  if k = 1 ∨ k = 2 ∨ k = 3 then some d
  else if k = 4 ∨ k = 5 ∨ k = 6 ∨ k = 16 then if a = b then some a else none
  else if k = 9 then if a.length = 2 ∧ b.length = 2 ∧ gi a 1 = gi b 0 then some [gi a 0, gi b 1] else none
  else if k = 10 then if a.length = 2 then some [gi a 1, gi a 0] else none
  else if k = 11 then if prodL d = prodL a then some d else none
  else if k = 12 then if growsP a d then some d else none
  else if k = 13 then if growsP d a then some d else none
  else if k = 15 then if lessOk a n then some (lessP a n) else none
  else if k = 17 then if lessOk a n ∧ lessP a n = b then some a else none
  else some a
theorem mayP_spec {d : List Int} (h : mayP d = true) : 1 ≤ d.length ∧ d.length ≤ 3 ∧ (∀ x ∈ d, 1 ≤ x ∧ x ≤ 8) ∧ prodL d ≤ 64 := by
  simp only [mayP, Bool.and_eq_true, decide_eq_true_eq, List.all_eq_true, okDim] at h
  exact ⟨h.1.1.1, h.1.1.2, h.1.2, h.2⟩
theorem mayP_gi {d : List Int} (h : mayP d = true) (z : Int) (hz : 0 ≤ z ∧ z < d.length) : 1 ≤ gi d z ∧ gi d z ≤ 8 := by
  obtain ⟨_, _, h3, _⟩ := mayP_spec h
  have hz' : z.toNat < d.length := by omega
  have : gi d z = d[z.toNat] := by simp [gi, List.getD_eq_getElem?_getD, hz']
  rw [this]
  exact h3 _ (List.getElem_mem _)
theorem formP_spec {k n : Int} {d : List Int} {l : List (List Int)} (h : formP k n d l = true) : (1 ≤ k ∧ k ≤ 17) ∧ (l.length : Int) = manyP k ∧ (∀ x ∈ l, mayP x = true) ∧ numberP k n = true ∧ (if namedP k then mayP d = true else d = []) := by
  simp only [formP, Bool.and_eq_true, decide_eq_true_eq, List.all_eq_true] at h
  refine ⟨⟨h.1.1.1.1.1, h.1.1.1.1.2⟩, h.1.1.1.2, h.1.1.2, h.1.2, ?_⟩
  have := h.2
  split
  · rename_i hn; rw [hn] at this; simpa using this
  · rename_i hn; simp only [hn] at this; simpa using this
end Go.Ab

/- Plain facts of dims. -/
set_option linter.unusedVariables false
namespace Go.Ab

theorem w64_in {x : Int} (h : -9223372036854775808 ≤ x ∧ x ≤ 9223372036854775807) : w64 x = x := IntWalk.i64_in x h
/-- Products of few small numbers. -/
theorem prodL_1 (a : Int) (ha : 1 ≤ a ∧ a ≤ 8) : prodL [a] = a := by
  simp only [prodL, List.foldl_cons, List.foldl_nil, Int.one_mul]
  exact w64_in (by omega)
theorem mul_bd {a b : Int} {m n : Int} (ha : 0 ≤ a ∧ a ≤ m) (hb : 0 ≤ b ∧ b ≤ n) : 0 ≤ a * b ∧ a * b ≤ m * n :=
  ⟨Int.mul_nonneg ha.1 hb.1, Int.mul_le_mul ha.2 hb.2 hb.1 (by omega)⟩
theorem prodL_2 (a b : Int) (ha : 1 ≤ a ∧ a ≤ 8) (hb : 1 ≤ b ∧ b ≤ 8) : prodL [a, b] = a * b := by
  have h := mul_bd (a := a) (b := b) (m := 8) (n := 8) (by omega) (by omega)
  simp only [prodL, List.foldl_cons, List.foldl_nil, Int.one_mul]
  rw [w64_in (x := a) (by omega), w64_in (by omega)]
theorem prodL_3 (a b c : Int) (ha : 1 ≤ a ∧ a ≤ 8) (hb : 1 ≤ b ∧ b ≤ 8) (hc : 1 ≤ c ∧ c ≤ 8) : prodL [a, b, c] = a * b * c := by
  have h := mul_bd (a := a) (b := b) (m := 8) (n := 8) (by omega) (by omega)
  have h2 := mul_bd (a := a * b) (b := c) (m := 64) (n := 8) (by omega) (by omega)
  simp only [prodL, List.foldl_cons, List.foldl_nil, Int.one_mul]
  rw [w64_in (x := a) (by omega), w64_in (x := a * b) (by omega), w64_in (by omega)]
theorem mayP_mk {d : List Int} (h1 : 1 ≤ d.length) (h2 : d.length ≤ 3) (h3 : ∀ x ∈ d, 1 ≤ x ∧ x ≤ 8) (h4 : prodL d ≤ 64) : mayP d = true := by
  simp only [mayP, Bool.and_eq_true, decide_eq_true_eq, List.all_eq_true, okDim]
  exact ⟨⟨⟨h1, h2⟩, h3⟩, h4⟩
/-- The three shapes. -/
theorem mayP_cases {d : List Int} (h : mayP d = true) : (∃ a, d = [a] ∧ 1 ≤ a ∧ a ≤ 8) ∨ (∃ a b, d = [a, b] ∧ (1 ≤ a ∧ a ≤ 8) ∧ (1 ≤ b ∧ b ≤ 8)) ∨ (∃ a b c, d = [a, b, c] ∧ (1 ≤ a ∧ a ≤ 8) ∧ (1 ≤ b ∧ b ≤ 8) ∧ (1 ≤ c ∧ c ≤ 8) ∧ a * b * c ≤ 64) := by
  obtain ⟨h1, h2, h3, h4⟩ := mayP_spec h
  match d, h1, h2, h3, h4 with
  | [a], _, _, h3, _ => exact .inl ⟨a, rfl, h3 a (by simp)⟩
  | [a, b], _, _, h3, _ => exact .inr (.inl ⟨a, b, rfl, h3 a (by simp), h3 b (by simp)⟩)
  | [a, b, c], _, _, h3, h4 =>
    have ha := h3 a (by simp)
    have hb := h3 b (by simp)
    have hc := h3 c (by simp)
    rw [prodL_3 a b c ha hb hc] at h4
    exact .inr (.inr ⟨a, b, c, rfl, ha, hb, hc, h4⟩)
theorem mayP_two {a b : Int} (ha : 1 ≤ a ∧ a ≤ 8) (hb : 1 ≤ b ∧ b ≤ 8) : mayP [a, b] = true := by
  refine mayP_mk (by simp) (by simp) (by simp; exact ⟨ha, hb⟩) ?_
  rw [prodL_2 a b ha hb]
  have := (mul_bd (a := a) (b := b) (m := 8) (n := 8) (by omega) (by omega)).2
  omega
theorem less_bd {a n : Int} (ha : 1 ≤ a ∧ a ≤ 8) (hn : 1 ≤ n ∧ n ≤ 8) (h : a % n = 0) : 1 ≤ a / n ∧ a / n ≤ a := by
  have h1 : a = n * (a / n) := by have := Int.mul_ediv_add_emod a n; omega
  have h0 : 0 ≤ a / n := Int.ediv_nonneg (by omega) (by omega)
  constructor
  · rcases Int.lt_or_le (a / n) 1 with h2 | h2
    · have : a / n = 0 := by omega
      rw [this] at h1; omega
    · exact h2
  · exact Int.ediv_le_self _ (by omega)
theorem lessP_may {d : List Int} {n : Int} (h : mayP d = true) (hn : 1 ≤ n ∧ n ≤ 8) (hl : lessOk d n = true) : mayP (lessP d n) = true := by
  rcases mayP_cases h with ⟨a, rfl, ha⟩ | ⟨a, b, rfl, ha, hb⟩ | ⟨a, b, c, rfl, ha, hb, hc, hp⟩
  · have hl : a % n = 0 := by simpa [lessOk, lastI, gi] using hl
    have := less_bd ha hn hl
    have e : lessP [a] n = [a / n] := by simp [lessP, lastI, gi]
    rw [e]
    refine mayP_mk (by simp) (by simp) (by simp; omega) ?_
    rw [prodL_1 _ (by omega)]; omega
  · have hl : b % n = 0 := by simpa [lessOk, lastI, gi] using hl
    have := less_bd hb hn hl
    have e : lessP [a, b] n = [a, b / n] := by simp [lessP, lastI, gi]
    rw [e]
    exact mayP_two ha (by omega)
  · have hl : c % n = 0 := by simpa [lessOk, lastI, gi] using hl
    have := less_bd hc hn hl
    have e : lessP [a, b, c] n = [a, b, c / n] := by simp [lessP, lastI, gi]
    rw [e]
    refine mayP_mk (by simp) (by simp) (by simp; omega) ?_
    rw [prodL_3 _ _ _ ha hb (by omega)]
    have hab := mul_bd (a := a) (b := b) (m := 8) (n := 8) (by omega) (by omega)
    have : a * b * (c / n) ≤ a * b * c := Int.mul_le_mul_of_nonneg_left (by omega) hab.1
    omega
theorem may_get {l : List (List Int)} (h : ∀ x ∈ l, mayP x = true) {i : Nat} (hi : i < l.length) : mayP (l.getD i []) = true := by
  rw [List.getD_eq_getElem?_getD, List.getElem?_eq_getElem hi]; exact h _ (List.getElem_mem _)
/-- The dims that are told may be. -/
theorem dimsP_may {k n : Int} {d x : List Int} {l : List (List Int)} (hf : formP k n d l = true) (h : dimsP k n d l = some x) : mayP x = true := by
  obtain ⟨hk, hll, hlm, hnum, hnd⟩ := formP_spec hf
  simp only [dimsP] at h
  have h1 : (l.length : Int) ≥ 1 → mayP (l.getD 0 []) = true := fun hh => may_get hlm (by omega)
  have h2 : (l.length : Int) ≥ 2 → mayP (l.getD 1 []) = true := fun hh => may_get hlm (by omega)
  generalize l.getD 0 [] = A at *
  generalize l.getD 1 [] = B at *
  rw [hll] at h1 h2
  unfold manyP at h1 h2
  split at h
  · rename_i hc
    cases h
    have : namedP k = true := by simp [namedP]; omega
    simpa [this] using hnd
  · rename_i hc1
    split at h
    · rename_i hc
      split at h
      · cases h; exact h1 (by split <;> (try split) <;> omega)
      · cases h
    · rename_i hc2
      split at h
      · rename_i hc
        split at h
        · rename_i hh
          cases h
          have ha := h1 (by split <;> (try split) <;> omega)
          have hb := h2 (by split <;> (try split) <;> omega)
          exact mayP_two (mayP_gi ha 0 (by omega)) (mayP_gi hb 1 (by omega))
        · cases h
      · rename_i hc3
        split at h
        · rename_i hc
          split at h
          · cases h
            have ha := h1 (by split <;> (try split) <;> omega)
            exact mayP_two (mayP_gi ha 1 (by omega)) (mayP_gi ha 0 (by omega))
          · cases h
        · rename_i hc4
          split at h
          · rename_i hc
            split at h
            · cases h
              have : namedP k = true := by simp [namedP]; omega
              simpa [this] using hnd
            · cases h
          · split at h
            · rename_i hc
              split at h
              · cases h
                have : namedP k = true := by simp [namedP]; omega
                simpa [this] using hnd
              · cases h
            · split at h
              · rename_i hc
                split at h
                · cases h
                  have : namedP k = true := by simp [namedP]; omega
                  simpa [this] using hnd
                · cases h
              · split at h
                · rename_i hc
                  split at h
                  · rename_i hl
                    cases h
                    have hn : 1 ≤ n ∧ n ≤ 8 := by subst hc; simpa [numberP] using hnum
                    exact lessP_may (h1 (by split <;> (try split) <;> omega)) hn hl
                  · cases h
                · split at h
                  · rename_i hc
                    split at h
                    · cases h; exact h1 (by split <;> (try split) <;> omega)
                    · cases h
                  · cases h; exact h1 (by split <;> (try split) <;> omega)
end Go.Ab

/- The types of the program as the abstract machine's table has them. -/
namespace Go.Proofs.K
open Go Go.Ab
/-- The machine's table. -/
noncomputable def tb : Tab := tabOf Go.Proofs.Try.prog fun _ => false
theorem tb_ok : tb.Ok Go.Proofs.Try.prog := tabOf_ok _ (by kernel_rfl)
noncomputable def fieldsOf (t : TypeId) : Array Field := match Go.Proofs.Try.prog.underlying t with | some (.struct fs) => fs | _ => #[]
theorem ty2 : tb.ty 2 = some { desc := .int .i64, size := 1, bytes := 8, zero := .int .i64 0, eqs := false } := by kernel_rfl
theorem ty3 : tb.ty 3 = some { desc := .int .i64, size := 1, bytes := 8, zero := .int .i64 0, eqs := false } := by kernel_rfl
theorem ty4 : tb.ty 4 = some { desc := .bool, size := 1, bytes := 1, zero := .bool false, eqs := false } := by kernel_rfl
theorem ty5 : tb.ty 5 = some { desc := .int .u8, size := 1, bytes := 1, zero := .int .u8 0, eqs := false } := by kernel_rfl
theorem ty6 : tb.ty 6 = some { desc := .int .u8, size := 1, bytes := 1, zero := .int .u8 0, eqs := false } := by kernel_rfl
theorem ty7 : tb.ty 7 = some { desc := .struct (fieldsOf 7), size := 4, bytes := 24, zero := .agg #[.int .i64 0, .int .i64 0, .bool false, .int .u8 0], eqs := true } := by kernel_rfl
theorem ty8 : tb.ty 8 = some { desc := .struct (fieldsOf 8), size := 4, bytes := 24, zero := .agg #[.int .i64 0, .int .i64 0, .bool false, .int .u8 0], eqs := true } := by kernel_rfl
theorem ty9 : tb.ty 9 = some { desc := .string, size := 1, bytes := 16, zero := .string .empty, eqs := false } := by kernel_rfl
theorem ty10 : tb.ty 10 = some { desc := .string, size := 1, bytes := 16, zero := .string .empty, eqs := false } := by kernel_rfl
theorem ty11 : tb.ty 11 = some { desc := .string, size := 1, bytes := 16, zero := .string .empty, eqs := false } := by kernel_rfl
theorem ty12 : tb.ty 12 = some { desc := .int .u64, size := 1, bytes := 8, zero := .int .u64 0, eqs := false } := by kernel_rfl
theorem ty13 : tb.ty 13 = some { desc := .struct (fieldsOf 13), size := 2, bytes := 24, zero := .agg #[.string .empty, .int .u64 0], eqs := false } := by kernel_rfl
theorem ty14 : tb.ty 14 = some { desc := .struct (fieldsOf 14), size := 2, bytes := 24, zero := .agg #[.string .empty, .int .u64 0], eqs := false } := by kernel_rfl
theorem ty15 : tb.ty 15 = some { desc := .pointer 99, size := 1, bytes := 8, zero := .pointer none, eqs := false } := by kernel_rfl
theorem ty16 : tb.ty 16 = some { desc := .pointer 102, size := 1, bytes := 8, zero := .pointer none, eqs := false } := by kernel_rfl
theorem ty17 : tb.ty 17 = some { desc := .pointer 112, size := 1, bytes := 8, zero := .pointer none, eqs := false } := by kernel_rfl
theorem ty18 : tb.ty 18 = some { desc := .struct (fieldsOf 18), size := 1, bytes := 8, zero := .agg #[.pointer none], eqs := false } := by kernel_rfl
theorem ty19 : tb.ty 19 = some { desc := .struct (fieldsOf 19), size := 1, bytes := 8, zero := .agg #[.pointer none], eqs := false } := by kernel_rfl
theorem ty21 : tb.ty 21 = some { desc := .int .i32, size := 1, bytes := 4, zero := .int .i32 0, eqs := false } := by kernel_rfl
theorem ty22 : tb.ty 22 = some { desc := .slice 32, size := 1, bytes := 24, zero := .slice none 0 0, eqs := false } := by kernel_rfl
theorem ty23 : tb.ty 23 = some { desc := .slice 3, size := 1, bytes := 24, zero := .slice none 0 0, eqs := false } := by kernel_rfl
theorem ty24 : tb.ty 24 = some { desc := .struct (fieldsOf 24), size := 2, bytes := 48, zero := .agg #[.slice none 0 0, .slice none 0 0], eqs := true } := by kernel_rfl
theorem ty25 : tb.ty 25 = some { desc := .struct (fieldsOf 25), size := 2, bytes := 48, zero := .agg #[.slice none 0 0, .slice none 0 0], eqs := true } := by kernel_rfl
theorem ty26 : tb.ty 26 = some { desc := .slice 23, size := 1, bytes := 24, zero := .slice none 0 0, eqs := false } := by kernel_rfl
theorem ty27 : tb.ty 27 = some { desc := .struct (fieldsOf 27), size := 4, bytes := 96, zero := .agg #[.slice none 0 0, .slice none 0 0, .slice none 0 0, .slice none 0 0], eqs := true } := by kernel_rfl
theorem ty28 : tb.ty 28 = some { desc := .struct (fieldsOf 28), size := 4, bytes := 96, zero := .agg #[.slice none 0 0, .slice none 0 0, .slice none 0 0, .slice none 0 0], eqs := true } := by kernel_rfl
theorem ty31 : tb.ty 31 = some { desc := .struct (fieldsOf 31), size := 2, bytes := 48, zero := .agg #[.slice none 0 0, .slice none 0 0], eqs := true } := by kernel_rfl
theorem ty32 : tb.ty 32 = some { desc := .struct (fieldsOf 32), size := 2, bytes := 48, zero := .agg #[.slice none 0 0, .slice none 0 0], eqs := true } := by kernel_rfl
theorem ty34 : tb.ty 34 = some { desc := .int .i64, size := 1, bytes := 8, zero := .int .i64 0, eqs := false } := by kernel_rfl
theorem ty98 : tb.ty 98 = some { desc := .struct (fieldsOf 98), size := 4, bytes := 40, zero := .agg #[.pointer none, .pointer none, .pointer none, .string .empty], eqs := false } := by kernel_rfl
theorem ty99 : tb.ty 99 = some { desc := .struct (fieldsOf 99), size := 4, bytes := 40, zero := .agg #[.pointer none, .pointer none, .pointer none, .string .empty], eqs := false } := by kernel_rfl
theorem ty100 : tb.ty 100 = some { desc := .array 0 16, size := 0, bytes := 0, zero := .agg #[], eqs := false } := by kernel_rfl
theorem ty101 : tb.ty 101 = some { desc := .struct (fieldsOf 101), size := 0, bytes := 0, zero := .agg #[], eqs := false } := by kernel_rfl
theorem ty102 : tb.ty 102 = some { desc := .struct (fieldsOf 102), size := 0, bytes := 0, zero := .agg #[], eqs := false } := by kernel_rfl
theorem ty104 : tb.ty 104 = some { desc := .int .u32, size := 1, bytes := 4, zero := .int .u32 0, eqs := false } := by kernel_rfl
theorem ty105 : tb.ty 105 = some { desc := .int .u8, size := 1, bytes := 1, zero := .int .u8 0, eqs := false } := by kernel_rfl
theorem ty106 : tb.ty 106 = some { desc := .int .u8, size := 1, bytes := 1, zero := .int .u8 0, eqs := false } := by kernel_rfl
theorem ty108 : tb.ty 108 = some { desc := .pointer 5, size := 1, bytes := 8, zero := .pointer none, eqs := false } := by kernel_rfl
theorem ty109 : tb.ty 109 = some { desc := .int .i32, size := 1, bytes := 4, zero := .int .i32 0, eqs := false } := by kernel_rfl
theorem ty110 : tb.ty 110 = some { desc := .int .i32, size := 1, bytes := 4, zero := .int .i32 0, eqs := false } := by kernel_rfl
theorem ty111 : tb.ty 111 = some { desc := .struct (fieldsOf 111), size := 11, bytes := 48, zero := .agg #[.int .u64 0, .int .u64 0, .int .u32 0, .int .u8 0, .int .u8 0, .int .u8 0, .int .u8 0, .nilFunc, .pointer none, .int .i32 0, .int .i32 0], eqs := false } := by kernel_rfl
theorem ty112 : tb.ty 112 = some { desc := .struct (fieldsOf 112), size := 11, bytes := 48, zero := .agg #[.int .u64 0, .int .u64 0, .int .u32 0, .int .u8 0, .int .u8 0, .int .u8 0, .int .u8 0, .nilFunc, .pointer none, .int .i32 0, .int .i32 0], eqs := false } := by kernel_rfl
theorem ty113 : tb.ty 113 = some { desc := .unsafePointer, size := 1, bytes := 8, zero := .pointer none, eqs := false } := by kernel_rfl
theorem lp2 (b k : Nat) (G : Nat → Option Blk) : aload tb 2 (.pointer (some ⟨b, k, none⟩)) G = nthO (G b) k := load_pt ty2 rfl b k G
theorem sp2 (b k : Nat) (v : Value) (G : AH) : astore tb 2 (.pointer (some ⟨b, k, none⟩)) v G = roO (leB G.ro b) (putO G b (setV (G.get b) k (cellN v 1))) := store_ptR ty2 b k v G
theorem lp3 (b k : Nat) (G : Nat → Option Blk) : aload tb 3 (.pointer (some ⟨b, k, none⟩)) G = nthO (G b) k := load_pt ty3 rfl b k G
theorem sp3 (b k : Nat) (v : Value) (G : AH) : astore tb 3 (.pointer (some ⟨b, k, none⟩)) v G = roO (leB G.ro b) (putO G b (setV (G.get b) k (cellN v 1))) := store_ptR ty3 b k v G
theorem lp4 (b k : Nat) (G : Nat → Option Blk) : aload tb 4 (.pointer (some ⟨b, k, none⟩)) G = nthO (G b) k := load_pt ty4 rfl b k G
theorem sp4 (b k : Nat) (v : Value) (G : AH) : astore tb 4 (.pointer (some ⟨b, k, none⟩)) v G = roO (leB G.ro b) (putO G b (setV (G.get b) k (cellN v 1))) := store_ptR ty4 b k v G
theorem lp5 (b k : Nat) (G : Nat → Option Blk) : aload tb 5 (.pointer (some ⟨b, k, none⟩)) G = nthO (G b) k := load_pt ty5 rfl b k G
theorem sp5 (b k : Nat) (v : Value) (G : AH) : astore tb 5 (.pointer (some ⟨b, k, none⟩)) v G = roO (leB G.ro b) (putO G b (setV (G.get b) k (cellN v 1))) := store_ptR ty5 b k v G
theorem lp6 (b k : Nat) (G : Nat → Option Blk) : aload tb 6 (.pointer (some ⟨b, k, none⟩)) G = nthO (G b) k := load_pt ty6 rfl b k G
theorem sp6 (b k : Nat) (v : Value) (G : AH) : astore tb 6 (.pointer (some ⟨b, k, none⟩)) v G = roO (leB G.ro b) (putO G b (setV (G.get b) k (cellN v 1))) := store_ptR ty6 b k v G
theorem lp7 (b k : Nat) (G : Nat → Option Blk) : aload tb 7 (.pointer (some ⟨b, k, none⟩)) G = aggO (G b) k 4 := load_agg ty7 rfl b k G
theorem sp7 (b k : Nat) (v : Value) (G : AH) : astore tb 7 (.pointer (some ⟨b, k, none⟩)) v G = roO (leB G.ro b) (putO G b (setV (G.get b) k (cellN v 4))) := store_ptR ty7 b k v G
theorem lp8 (b k : Nat) (G : Nat → Option Blk) : aload tb 8 (.pointer (some ⟨b, k, none⟩)) G = aggO (G b) k 4 := load_agg ty8 rfl b k G
theorem sp8 (b k : Nat) (v : Value) (G : AH) : astore tb 8 (.pointer (some ⟨b, k, none⟩)) v G = roO (leB G.ro b) (putO G b (setV (G.get b) k (cellN v 4))) := store_ptR ty8 b k v G
theorem lp9 (b k : Nat) (G : Nat → Option Blk) : aload tb 9 (.pointer (some ⟨b, k, none⟩)) G = nthO (G b) k := load_pt ty9 rfl b k G
theorem sp9 (b k : Nat) (v : Value) (G : AH) : astore tb 9 (.pointer (some ⟨b, k, none⟩)) v G = roO (leB G.ro b) (putO G b (setV (G.get b) k (cellN v 1))) := store_ptR ty9 b k v G
theorem lp10 (b k : Nat) (G : Nat → Option Blk) : aload tb 10 (.pointer (some ⟨b, k, none⟩)) G = nthO (G b) k := load_pt ty10 rfl b k G
theorem sp10 (b k : Nat) (v : Value) (G : AH) : astore tb 10 (.pointer (some ⟨b, k, none⟩)) v G = roO (leB G.ro b) (putO G b (setV (G.get b) k (cellN v 1))) := store_ptR ty10 b k v G
theorem lp11 (b k : Nat) (G : Nat → Option Blk) : aload tb 11 (.pointer (some ⟨b, k, none⟩)) G = nthO (G b) k := load_pt ty11 rfl b k G
theorem sp11 (b k : Nat) (v : Value) (G : AH) : astore tb 11 (.pointer (some ⟨b, k, none⟩)) v G = roO (leB G.ro b) (putO G b (setV (G.get b) k (cellN v 1))) := store_ptR ty11 b k v G
theorem lp12 (b k : Nat) (G : Nat → Option Blk) : aload tb 12 (.pointer (some ⟨b, k, none⟩)) G = nthO (G b) k := load_pt ty12 rfl b k G
theorem sp12 (b k : Nat) (v : Value) (G : AH) : astore tb 12 (.pointer (some ⟨b, k, none⟩)) v G = roO (leB G.ro b) (putO G b (setV (G.get b) k (cellN v 1))) := store_ptR ty12 b k v G
theorem lp13 (b k : Nat) (G : Nat → Option Blk) : aload tb 13 (.pointer (some ⟨b, k, none⟩)) G = aggO (G b) k 2 := load_agg ty13 rfl b k G
theorem sp13 (b k : Nat) (v : Value) (G : AH) : astore tb 13 (.pointer (some ⟨b, k, none⟩)) v G = roO (leB G.ro b) (putO G b (setV (G.get b) k (cellN v 2))) := store_ptR ty13 b k v G
theorem lp14 (b k : Nat) (G : Nat → Option Blk) : aload tb 14 (.pointer (some ⟨b, k, none⟩)) G = aggO (G b) k 2 := load_agg ty14 rfl b k G
theorem sp14 (b k : Nat) (v : Value) (G : AH) : astore tb 14 (.pointer (some ⟨b, k, none⟩)) v G = roO (leB G.ro b) (putO G b (setV (G.get b) k (cellN v 2))) := store_ptR ty14 b k v G
theorem lp15 (b k : Nat) (G : Nat → Option Blk) : aload tb 15 (.pointer (some ⟨b, k, none⟩)) G = nthO (G b) k := load_pt ty15 rfl b k G
theorem sp15 (b k : Nat) (v : Value) (G : AH) : astore tb 15 (.pointer (some ⟨b, k, none⟩)) v G = roO (leB G.ro b) (putO G b (setV (G.get b) k (cellN v 1))) := store_ptR ty15 b k v G
theorem lp16 (b k : Nat) (G : Nat → Option Blk) : aload tb 16 (.pointer (some ⟨b, k, none⟩)) G = nthO (G b) k := load_pt ty16 rfl b k G
theorem sp16 (b k : Nat) (v : Value) (G : AH) : astore tb 16 (.pointer (some ⟨b, k, none⟩)) v G = roO (leB G.ro b) (putO G b (setV (G.get b) k (cellN v 1))) := store_ptR ty16 b k v G
theorem lp17 (b k : Nat) (G : Nat → Option Blk) : aload tb 17 (.pointer (some ⟨b, k, none⟩)) G = nthO (G b) k := load_pt ty17 rfl b k G
theorem sp17 (b k : Nat) (v : Value) (G : AH) : astore tb 17 (.pointer (some ⟨b, k, none⟩)) v G = roO (leB G.ro b) (putO G b (setV (G.get b) k (cellN v 1))) := store_ptR ty17 b k v G
theorem lp18 (b k : Nat) (G : Nat → Option Blk) : aload tb 18 (.pointer (some ⟨b, k, none⟩)) G = aggO (G b) k 1 := load_agg ty18 rfl b k G
theorem sp18 (b k : Nat) (v : Value) (G : AH) : astore tb 18 (.pointer (some ⟨b, k, none⟩)) v G = roO (leB G.ro b) (putO G b (setV (G.get b) k (cellN v 1))) := store_ptR ty18 b k v G
theorem lp19 (b k : Nat) (G : Nat → Option Blk) : aload tb 19 (.pointer (some ⟨b, k, none⟩)) G = aggO (G b) k 1 := load_agg ty19 rfl b k G
theorem sp19 (b k : Nat) (v : Value) (G : AH) : astore tb 19 (.pointer (some ⟨b, k, none⟩)) v G = roO (leB G.ro b) (putO G b (setV (G.get b) k (cellN v 1))) := store_ptR ty19 b k v G
theorem lp21 (b k : Nat) (G : Nat → Option Blk) : aload tb 21 (.pointer (some ⟨b, k, none⟩)) G = nthO (G b) k := load_pt ty21 rfl b k G
theorem sp21 (b k : Nat) (v : Value) (G : AH) : astore tb 21 (.pointer (some ⟨b, k, none⟩)) v G = roO (leB G.ro b) (putO G b (setV (G.get b) k (cellN v 1))) := store_ptR ty21 b k v G
theorem lp22 (b k : Nat) (G : Nat → Option Blk) : aload tb 22 (.pointer (some ⟨b, k, none⟩)) G = nthO (G b) k := load_pt ty22 rfl b k G
theorem sp22 (b k : Nat) (v : Value) (G : AH) : astore tb 22 (.pointer (some ⟨b, k, none⟩)) v G = roO (leB G.ro b) (putO G b (setV (G.get b) k (cellN v 1))) := store_ptR ty22 b k v G
theorem lp23 (b k : Nat) (G : Nat → Option Blk) : aload tb 23 (.pointer (some ⟨b, k, none⟩)) G = nthO (G b) k := load_pt ty23 rfl b k G
theorem sp23 (b k : Nat) (v : Value) (G : AH) : astore tb 23 (.pointer (some ⟨b, k, none⟩)) v G = roO (leB G.ro b) (putO G b (setV (G.get b) k (cellN v 1))) := store_ptR ty23 b k v G
theorem lp24 (b k : Nat) (G : Nat → Option Blk) : aload tb 24 (.pointer (some ⟨b, k, none⟩)) G = aggO (G b) k 2 := load_agg ty24 rfl b k G
theorem sp24 (b k : Nat) (v : Value) (G : AH) : astore tb 24 (.pointer (some ⟨b, k, none⟩)) v G = roO (leB G.ro b) (putO G b (setV (G.get b) k (cellN v 2))) := store_ptR ty24 b k v G
theorem lp25 (b k : Nat) (G : Nat → Option Blk) : aload tb 25 (.pointer (some ⟨b, k, none⟩)) G = aggO (G b) k 2 := load_agg ty25 rfl b k G
theorem sp25 (b k : Nat) (v : Value) (G : AH) : astore tb 25 (.pointer (some ⟨b, k, none⟩)) v G = roO (leB G.ro b) (putO G b (setV (G.get b) k (cellN v 2))) := store_ptR ty25 b k v G
theorem lp26 (b k : Nat) (G : Nat → Option Blk) : aload tb 26 (.pointer (some ⟨b, k, none⟩)) G = nthO (G b) k := load_pt ty26 rfl b k G
theorem sp26 (b k : Nat) (v : Value) (G : AH) : astore tb 26 (.pointer (some ⟨b, k, none⟩)) v G = roO (leB G.ro b) (putO G b (setV (G.get b) k (cellN v 1))) := store_ptR ty26 b k v G
theorem lp27 (b k : Nat) (G : Nat → Option Blk) : aload tb 27 (.pointer (some ⟨b, k, none⟩)) G = aggO (G b) k 4 := load_agg ty27 rfl b k G
theorem sp27 (b k : Nat) (v : Value) (G : AH) : astore tb 27 (.pointer (some ⟨b, k, none⟩)) v G = roO (leB G.ro b) (putO G b (setV (G.get b) k (cellN v 4))) := store_ptR ty27 b k v G
theorem lp28 (b k : Nat) (G : Nat → Option Blk) : aload tb 28 (.pointer (some ⟨b, k, none⟩)) G = aggO (G b) k 4 := load_agg ty28 rfl b k G
theorem sp28 (b k : Nat) (v : Value) (G : AH) : astore tb 28 (.pointer (some ⟨b, k, none⟩)) v G = roO (leB G.ro b) (putO G b (setV (G.get b) k (cellN v 4))) := store_ptR ty28 b k v G
theorem lp31 (b k : Nat) (G : Nat → Option Blk) : aload tb 31 (.pointer (some ⟨b, k, none⟩)) G = aggO (G b) k 2 := load_agg ty31 rfl b k G
theorem sp31 (b k : Nat) (v : Value) (G : AH) : astore tb 31 (.pointer (some ⟨b, k, none⟩)) v G = roO (leB G.ro b) (putO G b (setV (G.get b) k (cellN v 2))) := store_ptR ty31 b k v G
theorem lp32 (b k : Nat) (G : Nat → Option Blk) : aload tb 32 (.pointer (some ⟨b, k, none⟩)) G = aggO (G b) k 2 := load_agg ty32 rfl b k G
theorem sp32 (b k : Nat) (v : Value) (G : AH) : astore tb 32 (.pointer (some ⟨b, k, none⟩)) v G = roO (leB G.ro b) (putO G b (setV (G.get b) k (cellN v 2))) := store_ptR ty32 b k v G
theorem lp34 (b k : Nat) (G : Nat → Option Blk) : aload tb 34 (.pointer (some ⟨b, k, none⟩)) G = nthO (G b) k := load_pt ty34 rfl b k G
theorem sp34 (b k : Nat) (v : Value) (G : AH) : astore tb 34 (.pointer (some ⟨b, k, none⟩)) v G = roO (leB G.ro b) (putO G b (setV (G.get b) k (cellN v 1))) := store_ptR ty34 b k v G
theorem lp98 (b k : Nat) (G : Nat → Option Blk) : aload tb 98 (.pointer (some ⟨b, k, none⟩)) G = aggO (G b) k 4 := load_agg ty98 rfl b k G
theorem sp98 (b k : Nat) (v : Value) (G : AH) : astore tb 98 (.pointer (some ⟨b, k, none⟩)) v G = roO (leB G.ro b) (putO G b (setV (G.get b) k (cellN v 4))) := store_ptR ty98 b k v G
theorem lp99 (b k : Nat) (G : Nat → Option Blk) : aload tb 99 (.pointer (some ⟨b, k, none⟩)) G = aggO (G b) k 4 := load_agg ty99 rfl b k G
theorem sp99 (b k : Nat) (v : Value) (G : AH) : astore tb 99 (.pointer (some ⟨b, k, none⟩)) v G = roO (leB G.ro b) (putO G b (setV (G.get b) k (cellN v 4))) := store_ptR ty99 b k v G
theorem lp104 (b k : Nat) (G : Nat → Option Blk) : aload tb 104 (.pointer (some ⟨b, k, none⟩)) G = nthO (G b) k := load_pt ty104 rfl b k G
theorem sp104 (b k : Nat) (v : Value) (G : AH) : astore tb 104 (.pointer (some ⟨b, k, none⟩)) v G = roO (leB G.ro b) (putO G b (setV (G.get b) k (cellN v 1))) := store_ptR ty104 b k v G
theorem lp105 (b k : Nat) (G : Nat → Option Blk) : aload tb 105 (.pointer (some ⟨b, k, none⟩)) G = nthO (G b) k := load_pt ty105 rfl b k G
theorem sp105 (b k : Nat) (v : Value) (G : AH) : astore tb 105 (.pointer (some ⟨b, k, none⟩)) v G = roO (leB G.ro b) (putO G b (setV (G.get b) k (cellN v 1))) := store_ptR ty105 b k v G
theorem lp106 (b k : Nat) (G : Nat → Option Blk) : aload tb 106 (.pointer (some ⟨b, k, none⟩)) G = nthO (G b) k := load_pt ty106 rfl b k G
theorem sp106 (b k : Nat) (v : Value) (G : AH) : astore tb 106 (.pointer (some ⟨b, k, none⟩)) v G = roO (leB G.ro b) (putO G b (setV (G.get b) k (cellN v 1))) := store_ptR ty106 b k v G
theorem lp108 (b k : Nat) (G : Nat → Option Blk) : aload tb 108 (.pointer (some ⟨b, k, none⟩)) G = nthO (G b) k := load_pt ty108 rfl b k G
theorem sp108 (b k : Nat) (v : Value) (G : AH) : astore tb 108 (.pointer (some ⟨b, k, none⟩)) v G = roO (leB G.ro b) (putO G b (setV (G.get b) k (cellN v 1))) := store_ptR ty108 b k v G
theorem lp109 (b k : Nat) (G : Nat → Option Blk) : aload tb 109 (.pointer (some ⟨b, k, none⟩)) G = nthO (G b) k := load_pt ty109 rfl b k G
theorem sp109 (b k : Nat) (v : Value) (G : AH) : astore tb 109 (.pointer (some ⟨b, k, none⟩)) v G = roO (leB G.ro b) (putO G b (setV (G.get b) k (cellN v 1))) := store_ptR ty109 b k v G
theorem lp110 (b k : Nat) (G : Nat → Option Blk) : aload tb 110 (.pointer (some ⟨b, k, none⟩)) G = nthO (G b) k := load_pt ty110 rfl b k G
theorem sp110 (b k : Nat) (v : Value) (G : AH) : astore tb 110 (.pointer (some ⟨b, k, none⟩)) v G = roO (leB G.ro b) (putO G b (setV (G.get b) k (cellN v 1))) := store_ptR ty110 b k v G
theorem lp111 (b k : Nat) (G : Nat → Option Blk) : aload tb 111 (.pointer (some ⟨b, k, none⟩)) G = aggO (G b) k 11 := load_agg ty111 rfl b k G
theorem sp111 (b k : Nat) (v : Value) (G : AH) : astore tb 111 (.pointer (some ⟨b, k, none⟩)) v G = roO (leB G.ro b) (putO G b (setV (G.get b) k (cellN v 11))) := store_ptR ty111 b k v G
theorem lp112 (b k : Nat) (G : Nat → Option Blk) : aload tb 112 (.pointer (some ⟨b, k, none⟩)) G = aggO (G b) k 11 := load_agg ty112 rfl b k G
theorem sp112 (b k : Nat) (v : Value) (G : AH) : astore tb 112 (.pointer (some ⟨b, k, none⟩)) v G = roO (leB G.ro b) (putO G b (setV (G.get b) k (cellN v 11))) := store_ptR ty112 b k v G
theorem lp113 (b k : Nat) (G : Nat → Option Blk) : aload tb 113 (.pointer (some ⟨b, k, none⟩)) G = nthO (G b) k := load_pt ty113 rfl b k G
theorem sp113 (b k : Nat) (v : Value) (G : AH) : astore tb 113 (.pointer (some ⟨b, k, none⟩)) v G = roO (leB G.ro b) (putO G b (setV (G.get b) k (cellN v 1))) := store_ptR ty113 b k v G
theorem fa7_0 (b off : Nat) : afield tb 7 (.pointer (some ⟨b, off, none⟩)) 0 = some (.pointer (some ⟨b, off + 0, none⟩)) := by kernel_rfl
theorem fp7_0 (c0 c1 c2 c3 : Value) : apick tb 7 (.agg #[c0, c1, c2, c3]) 0 = some c0 := by kernel_rfl
theorem fa7_1 (b off : Nat) : afield tb 7 (.pointer (some ⟨b, off, none⟩)) 1 = some (.pointer (some ⟨b, off + 1, none⟩)) := by kernel_rfl
theorem fp7_1 (c0 c1 c2 c3 : Value) : apick tb 7 (.agg #[c0, c1, c2, c3]) 1 = some c1 := by kernel_rfl
theorem fa7_2 (b off : Nat) : afield tb 7 (.pointer (some ⟨b, off, none⟩)) 2 = some (.pointer (some ⟨b, off + 2, none⟩)) := by kernel_rfl
theorem fp7_2 (c0 c1 c2 c3 : Value) : apick tb 7 (.agg #[c0, c1, c2, c3]) 2 = some c2 := by kernel_rfl
theorem fa7_3 (b off : Nat) : afield tb 7 (.pointer (some ⟨b, off, none⟩)) 3 = some (.pointer (some ⟨b, off + 3, none⟩)) := by kernel_rfl
theorem fp7_3 (c0 c1 c2 c3 : Value) : apick tb 7 (.agg #[c0, c1, c2, c3]) 3 = some c3 := by kernel_rfl
theorem fa8_0 (b off : Nat) : afield tb 8 (.pointer (some ⟨b, off, none⟩)) 0 = some (.pointer (some ⟨b, off + 0, none⟩)) := by kernel_rfl
theorem fp8_0 (c0 c1 c2 c3 : Value) : apick tb 8 (.agg #[c0, c1, c2, c3]) 0 = some c0 := by kernel_rfl
theorem fa8_1 (b off : Nat) : afield tb 8 (.pointer (some ⟨b, off, none⟩)) 1 = some (.pointer (some ⟨b, off + 1, none⟩)) := by kernel_rfl
theorem fp8_1 (c0 c1 c2 c3 : Value) : apick tb 8 (.agg #[c0, c1, c2, c3]) 1 = some c1 := by kernel_rfl
theorem fa8_2 (b off : Nat) : afield tb 8 (.pointer (some ⟨b, off, none⟩)) 2 = some (.pointer (some ⟨b, off + 2, none⟩)) := by kernel_rfl
theorem fp8_2 (c0 c1 c2 c3 : Value) : apick tb 8 (.agg #[c0, c1, c2, c3]) 2 = some c2 := by kernel_rfl
theorem fa8_3 (b off : Nat) : afield tb 8 (.pointer (some ⟨b, off, none⟩)) 3 = some (.pointer (some ⟨b, off + 3, none⟩)) := by kernel_rfl
theorem fp8_3 (c0 c1 c2 c3 : Value) : apick tb 8 (.agg #[c0, c1, c2, c3]) 3 = some c3 := by kernel_rfl
theorem fa13_0 (b off : Nat) : afield tb 13 (.pointer (some ⟨b, off, none⟩)) 0 = some (.pointer (some ⟨b, off + 0, none⟩)) := by kernel_rfl
theorem fp13_0 (c0 c1 : Value) : apick tb 13 (.agg #[c0, c1]) 0 = some c0 := by kernel_rfl
theorem fa13_1 (b off : Nat) : afield tb 13 (.pointer (some ⟨b, off, none⟩)) 1 = some (.pointer (some ⟨b, off + 1, none⟩)) := by kernel_rfl
theorem fp13_1 (c0 c1 : Value) : apick tb 13 (.agg #[c0, c1]) 1 = some c1 := by kernel_rfl
theorem fa14_0 (b off : Nat) : afield tb 14 (.pointer (some ⟨b, off, none⟩)) 0 = some (.pointer (some ⟨b, off + 0, none⟩)) := by kernel_rfl
theorem fp14_0 (c0 c1 : Value) : apick tb 14 (.agg #[c0, c1]) 0 = some c0 := by kernel_rfl
theorem fa14_1 (b off : Nat) : afield tb 14 (.pointer (some ⟨b, off, none⟩)) 1 = some (.pointer (some ⟨b, off + 1, none⟩)) := by kernel_rfl
theorem fp14_1 (c0 c1 : Value) : apick tb 14 (.agg #[c0, c1]) 1 = some c1 := by kernel_rfl
theorem fa18_0 (b off : Nat) : afield tb 18 (.pointer (some ⟨b, off, none⟩)) 0 = some (.pointer (some ⟨b, off + 0, none⟩)) := by kernel_rfl
theorem fp18_0 (c0 : Value) : apick tb 18 (.agg #[c0]) 0 = some c0 := by kernel_rfl
theorem fa19_0 (b off : Nat) : afield tb 19 (.pointer (some ⟨b, off, none⟩)) 0 = some (.pointer (some ⟨b, off + 0, none⟩)) := by kernel_rfl
theorem fp19_0 (c0 : Value) : apick tb 19 (.agg #[c0]) 0 = some c0 := by kernel_rfl
theorem fa24_0 (b off : Nat) : afield tb 24 (.pointer (some ⟨b, off, none⟩)) 0 = some (.pointer (some ⟨b, off + 0, none⟩)) := by kernel_rfl
theorem fp24_0 (c0 c1 : Value) : apick tb 24 (.agg #[c0, c1]) 0 = some c0 := by kernel_rfl
theorem fa24_1 (b off : Nat) : afield tb 24 (.pointer (some ⟨b, off, none⟩)) 1 = some (.pointer (some ⟨b, off + 1, none⟩)) := by kernel_rfl
theorem fp24_1 (c0 c1 : Value) : apick tb 24 (.agg #[c0, c1]) 1 = some c1 := by kernel_rfl
theorem fa25_0 (b off : Nat) : afield tb 25 (.pointer (some ⟨b, off, none⟩)) 0 = some (.pointer (some ⟨b, off + 0, none⟩)) := by kernel_rfl
theorem fp25_0 (c0 c1 : Value) : apick tb 25 (.agg #[c0, c1]) 0 = some c0 := by kernel_rfl
theorem fa25_1 (b off : Nat) : afield tb 25 (.pointer (some ⟨b, off, none⟩)) 1 = some (.pointer (some ⟨b, off + 1, none⟩)) := by kernel_rfl
theorem fp25_1 (c0 c1 : Value) : apick tb 25 (.agg #[c0, c1]) 1 = some c1 := by kernel_rfl
theorem fa27_0 (b off : Nat) : afield tb 27 (.pointer (some ⟨b, off, none⟩)) 0 = some (.pointer (some ⟨b, off + 0, none⟩)) := by kernel_rfl
theorem fp27_0 (c0 c1 c2 c3 : Value) : apick tb 27 (.agg #[c0, c1, c2, c3]) 0 = some (.agg #[c0, c1]) := by kernel_rfl
theorem fa27_1 (b off : Nat) : afield tb 27 (.pointer (some ⟨b, off, none⟩)) 1 = some (.pointer (some ⟨b, off + 2, none⟩)) := by kernel_rfl
theorem fp27_1 (c0 c1 c2 c3 : Value) : apick tb 27 (.agg #[c0, c1, c2, c3]) 1 = some c2 := by kernel_rfl
theorem fa27_2 (b off : Nat) : afield tb 27 (.pointer (some ⟨b, off, none⟩)) 2 = some (.pointer (some ⟨b, off + 3, none⟩)) := by kernel_rfl
theorem fp27_2 (c0 c1 c2 c3 : Value) : apick tb 27 (.agg #[c0, c1, c2, c3]) 2 = some c3 := by kernel_rfl
theorem fa28_0 (b off : Nat) : afield tb 28 (.pointer (some ⟨b, off, none⟩)) 0 = some (.pointer (some ⟨b, off + 0, none⟩)) := by kernel_rfl
theorem fp28_0 (c0 c1 c2 c3 : Value) : apick tb 28 (.agg #[c0, c1, c2, c3]) 0 = some (.agg #[c0, c1]) := by kernel_rfl
theorem fa28_1 (b off : Nat) : afield tb 28 (.pointer (some ⟨b, off, none⟩)) 1 = some (.pointer (some ⟨b, off + 2, none⟩)) := by kernel_rfl
theorem fp28_1 (c0 c1 c2 c3 : Value) : apick tb 28 (.agg #[c0, c1, c2, c3]) 1 = some c2 := by kernel_rfl
theorem fa28_2 (b off : Nat) : afield tb 28 (.pointer (some ⟨b, off, none⟩)) 2 = some (.pointer (some ⟨b, off + 3, none⟩)) := by kernel_rfl
theorem fp28_2 (c0 c1 c2 c3 : Value) : apick tb 28 (.agg #[c0, c1, c2, c3]) 2 = some c3 := by kernel_rfl
theorem fa31_0 (b off : Nat) : afield tb 31 (.pointer (some ⟨b, off, none⟩)) 0 = some (.pointer (some ⟨b, off + 0, none⟩)) := by kernel_rfl
theorem fp31_0 (c0 c1 : Value) : apick tb 31 (.agg #[c0, c1]) 0 = some c0 := by kernel_rfl
theorem fa31_1 (b off : Nat) : afield tb 31 (.pointer (some ⟨b, off, none⟩)) 1 = some (.pointer (some ⟨b, off + 1, none⟩)) := by kernel_rfl
theorem fp31_1 (c0 c1 : Value) : apick tb 31 (.agg #[c0, c1]) 1 = some c1 := by kernel_rfl
theorem fa32_0 (b off : Nat) : afield tb 32 (.pointer (some ⟨b, off, none⟩)) 0 = some (.pointer (some ⟨b, off + 0, none⟩)) := by kernel_rfl
theorem fp32_0 (c0 c1 : Value) : apick tb 32 (.agg #[c0, c1]) 0 = some c0 := by kernel_rfl
theorem fa32_1 (b off : Nat) : afield tb 32 (.pointer (some ⟨b, off, none⟩)) 1 = some (.pointer (some ⟨b, off + 1, none⟩)) := by kernel_rfl
theorem fp32_1 (c0 c1 : Value) : apick tb 32 (.agg #[c0, c1]) 1 = some c1 := by kernel_rfl
theorem fa98_0 (b off : Nat) : afield tb 98 (.pointer (some ⟨b, off, none⟩)) 0 = some (.pointer (some ⟨b, off + 0, none⟩)) := by kernel_rfl
theorem fp98_0 (c0 c1 c2 c3 : Value) : apick tb 98 (.agg #[c0, c1, c2, c3]) 0 = some c0 := by kernel_rfl
theorem fa98_1 (b off : Nat) : afield tb 98 (.pointer (some ⟨b, off, none⟩)) 1 = some (.pointer (some ⟨b, off + 1, none⟩)) := by kernel_rfl
theorem fp98_1 (c0 c1 c2 c3 : Value) : apick tb 98 (.agg #[c0, c1, c2, c3]) 1 = some c1 := by kernel_rfl
theorem fa98_2 (b off : Nat) : afield tb 98 (.pointer (some ⟨b, off, none⟩)) 2 = some (.pointer (some ⟨b, off + 2, none⟩)) := by kernel_rfl
theorem fp98_2 (c0 c1 c2 c3 : Value) : apick tb 98 (.agg #[c0, c1, c2, c3]) 2 = some c2 := by kernel_rfl
theorem fa98_3 (b off : Nat) : afield tb 98 (.pointer (some ⟨b, off, none⟩)) 3 = some (.pointer (some ⟨b, off + 3, none⟩)) := by kernel_rfl
theorem fp98_3 (c0 c1 c2 c3 : Value) : apick tb 98 (.agg #[c0, c1, c2, c3]) 3 = some c3 := by kernel_rfl
theorem fa99_0 (b off : Nat) : afield tb 99 (.pointer (some ⟨b, off, none⟩)) 0 = some (.pointer (some ⟨b, off + 0, none⟩)) := by kernel_rfl
theorem fp99_0 (c0 c1 c2 c3 : Value) : apick tb 99 (.agg #[c0, c1, c2, c3]) 0 = some c0 := by kernel_rfl
theorem fa99_1 (b off : Nat) : afield tb 99 (.pointer (some ⟨b, off, none⟩)) 1 = some (.pointer (some ⟨b, off + 1, none⟩)) := by kernel_rfl
theorem fp99_1 (c0 c1 c2 c3 : Value) : apick tb 99 (.agg #[c0, c1, c2, c3]) 1 = some c1 := by kernel_rfl
theorem fa99_2 (b off : Nat) : afield tb 99 (.pointer (some ⟨b, off, none⟩)) 2 = some (.pointer (some ⟨b, off + 2, none⟩)) := by kernel_rfl
theorem fp99_2 (c0 c1 c2 c3 : Value) : apick tb 99 (.agg #[c0, c1, c2, c3]) 2 = some c2 := by kernel_rfl
theorem fa99_3 (b off : Nat) : afield tb 99 (.pointer (some ⟨b, off, none⟩)) 3 = some (.pointer (some ⟨b, off + 3, none⟩)) := by kernel_rfl
theorem fp99_3 (c0 c1 c2 c3 : Value) : apick tb 99 (.agg #[c0, c1, c2, c3]) 3 = some c3 := by kernel_rfl
theorem fa111_0 (b off : Nat) : afield tb 111 (.pointer (some ⟨b, off, none⟩)) 0 = some (.pointer (some ⟨b, off + 0, none⟩)) := by kernel_rfl
theorem fp111_0 (c0 c1 c2 c3 c4 c5 c6 c7 c8 c9 c10 : Value) : apick tb 111 (.agg #[c0, c1, c2, c3, c4, c5, c6, c7, c8, c9, c10]) 0 = some c0 := by kernel_rfl
theorem fa111_1 (b off : Nat) : afield tb 111 (.pointer (some ⟨b, off, none⟩)) 1 = some (.pointer (some ⟨b, off + 1, none⟩)) := by kernel_rfl
theorem fp111_1 (c0 c1 c2 c3 c4 c5 c6 c7 c8 c9 c10 : Value) : apick tb 111 (.agg #[c0, c1, c2, c3, c4, c5, c6, c7, c8, c9, c10]) 1 = some c1 := by kernel_rfl
theorem fa111_2 (b off : Nat) : afield tb 111 (.pointer (some ⟨b, off, none⟩)) 2 = some (.pointer (some ⟨b, off + 2, none⟩)) := by kernel_rfl
theorem fp111_2 (c0 c1 c2 c3 c4 c5 c6 c7 c8 c9 c10 : Value) : apick tb 111 (.agg #[c0, c1, c2, c3, c4, c5, c6, c7, c8, c9, c10]) 2 = some c2 := by kernel_rfl
theorem fa111_3 (b off : Nat) : afield tb 111 (.pointer (some ⟨b, off, none⟩)) 3 = some (.pointer (some ⟨b, off + 3, none⟩)) := by kernel_rfl
theorem fp111_3 (c0 c1 c2 c3 c4 c5 c6 c7 c8 c9 c10 : Value) : apick tb 111 (.agg #[c0, c1, c2, c3, c4, c5, c6, c7, c8, c9, c10]) 3 = some c3 := by kernel_rfl
theorem fa111_4 (b off : Nat) : afield tb 111 (.pointer (some ⟨b, off, none⟩)) 4 = some (.pointer (some ⟨b, off + 4, none⟩)) := by kernel_rfl
theorem fp111_4 (c0 c1 c2 c3 c4 c5 c6 c7 c8 c9 c10 : Value) : apick tb 111 (.agg #[c0, c1, c2, c3, c4, c5, c6, c7, c8, c9, c10]) 4 = some c4 := by kernel_rfl
theorem fa111_5 (b off : Nat) : afield tb 111 (.pointer (some ⟨b, off, none⟩)) 5 = some (.pointer (some ⟨b, off + 5, none⟩)) := by kernel_rfl
theorem fp111_5 (c0 c1 c2 c3 c4 c5 c6 c7 c8 c9 c10 : Value) : apick tb 111 (.agg #[c0, c1, c2, c3, c4, c5, c6, c7, c8, c9, c10]) 5 = some c5 := by kernel_rfl
theorem fa111_6 (b off : Nat) : afield tb 111 (.pointer (some ⟨b, off, none⟩)) 6 = some (.pointer (some ⟨b, off + 6, none⟩)) := by kernel_rfl
theorem fp111_6 (c0 c1 c2 c3 c4 c5 c6 c7 c8 c9 c10 : Value) : apick tb 111 (.agg #[c0, c1, c2, c3, c4, c5, c6, c7, c8, c9, c10]) 6 = some c6 := by kernel_rfl
theorem fa111_7 (b off : Nat) : afield tb 111 (.pointer (some ⟨b, off, none⟩)) 7 = some (.pointer (some ⟨b, off + 7, none⟩)) := by kernel_rfl
theorem fp111_7 (c0 c1 c2 c3 c4 c5 c6 c7 c8 c9 c10 : Value) : apick tb 111 (.agg #[c0, c1, c2, c3, c4, c5, c6, c7, c8, c9, c10]) 7 = some c7 := by kernel_rfl
theorem fa111_8 (b off : Nat) : afield tb 111 (.pointer (some ⟨b, off, none⟩)) 8 = some (.pointer (some ⟨b, off + 8, none⟩)) := by kernel_rfl
theorem fp111_8 (c0 c1 c2 c3 c4 c5 c6 c7 c8 c9 c10 : Value) : apick tb 111 (.agg #[c0, c1, c2, c3, c4, c5, c6, c7, c8, c9, c10]) 8 = some c8 := by kernel_rfl
theorem fa111_9 (b off : Nat) : afield tb 111 (.pointer (some ⟨b, off, none⟩)) 9 = some (.pointer (some ⟨b, off + 9, none⟩)) := by kernel_rfl
theorem fp111_9 (c0 c1 c2 c3 c4 c5 c6 c7 c8 c9 c10 : Value) : apick tb 111 (.agg #[c0, c1, c2, c3, c4, c5, c6, c7, c8, c9, c10]) 9 = some c9 := by kernel_rfl
theorem fa111_10 (b off : Nat) : afield tb 111 (.pointer (some ⟨b, off, none⟩)) 10 = some (.pointer (some ⟨b, off + 10, none⟩)) := by kernel_rfl
theorem fp111_10 (c0 c1 c2 c3 c4 c5 c6 c7 c8 c9 c10 : Value) : apick tb 111 (.agg #[c0, c1, c2, c3, c4, c5, c6, c7, c8, c9, c10]) 10 = some c10 := by kernel_rfl
theorem fa112_0 (b off : Nat) : afield tb 112 (.pointer (some ⟨b, off, none⟩)) 0 = some (.pointer (some ⟨b, off + 0, none⟩)) := by kernel_rfl
theorem fp112_0 (c0 c1 c2 c3 c4 c5 c6 c7 c8 c9 c10 : Value) : apick tb 112 (.agg #[c0, c1, c2, c3, c4, c5, c6, c7, c8, c9, c10]) 0 = some c0 := by kernel_rfl
theorem fa112_1 (b off : Nat) : afield tb 112 (.pointer (some ⟨b, off, none⟩)) 1 = some (.pointer (some ⟨b, off + 1, none⟩)) := by kernel_rfl
theorem fp112_1 (c0 c1 c2 c3 c4 c5 c6 c7 c8 c9 c10 : Value) : apick tb 112 (.agg #[c0, c1, c2, c3, c4, c5, c6, c7, c8, c9, c10]) 1 = some c1 := by kernel_rfl
theorem fa112_2 (b off : Nat) : afield tb 112 (.pointer (some ⟨b, off, none⟩)) 2 = some (.pointer (some ⟨b, off + 2, none⟩)) := by kernel_rfl
theorem fp112_2 (c0 c1 c2 c3 c4 c5 c6 c7 c8 c9 c10 : Value) : apick tb 112 (.agg #[c0, c1, c2, c3, c4, c5, c6, c7, c8, c9, c10]) 2 = some c2 := by kernel_rfl
theorem fa112_3 (b off : Nat) : afield tb 112 (.pointer (some ⟨b, off, none⟩)) 3 = some (.pointer (some ⟨b, off + 3, none⟩)) := by kernel_rfl
theorem fp112_3 (c0 c1 c2 c3 c4 c5 c6 c7 c8 c9 c10 : Value) : apick tb 112 (.agg #[c0, c1, c2, c3, c4, c5, c6, c7, c8, c9, c10]) 3 = some c3 := by kernel_rfl
theorem fa112_4 (b off : Nat) : afield tb 112 (.pointer (some ⟨b, off, none⟩)) 4 = some (.pointer (some ⟨b, off + 4, none⟩)) := by kernel_rfl
theorem fp112_4 (c0 c1 c2 c3 c4 c5 c6 c7 c8 c9 c10 : Value) : apick tb 112 (.agg #[c0, c1, c2, c3, c4, c5, c6, c7, c8, c9, c10]) 4 = some c4 := by kernel_rfl
theorem fa112_5 (b off : Nat) : afield tb 112 (.pointer (some ⟨b, off, none⟩)) 5 = some (.pointer (some ⟨b, off + 5, none⟩)) := by kernel_rfl
theorem fp112_5 (c0 c1 c2 c3 c4 c5 c6 c7 c8 c9 c10 : Value) : apick tb 112 (.agg #[c0, c1, c2, c3, c4, c5, c6, c7, c8, c9, c10]) 5 = some c5 := by kernel_rfl
theorem fa112_6 (b off : Nat) : afield tb 112 (.pointer (some ⟨b, off, none⟩)) 6 = some (.pointer (some ⟨b, off + 6, none⟩)) := by kernel_rfl
theorem fp112_6 (c0 c1 c2 c3 c4 c5 c6 c7 c8 c9 c10 : Value) : apick tb 112 (.agg #[c0, c1, c2, c3, c4, c5, c6, c7, c8, c9, c10]) 6 = some c6 := by kernel_rfl
theorem fa112_7 (b off : Nat) : afield tb 112 (.pointer (some ⟨b, off, none⟩)) 7 = some (.pointer (some ⟨b, off + 7, none⟩)) := by kernel_rfl
theorem fp112_7 (c0 c1 c2 c3 c4 c5 c6 c7 c8 c9 c10 : Value) : apick tb 112 (.agg #[c0, c1, c2, c3, c4, c5, c6, c7, c8, c9, c10]) 7 = some c7 := by kernel_rfl
theorem fa112_8 (b off : Nat) : afield tb 112 (.pointer (some ⟨b, off, none⟩)) 8 = some (.pointer (some ⟨b, off + 8, none⟩)) := by kernel_rfl
theorem fp112_8 (c0 c1 c2 c3 c4 c5 c6 c7 c8 c9 c10 : Value) : apick tb 112 (.agg #[c0, c1, c2, c3, c4, c5, c6, c7, c8, c9, c10]) 8 = some c8 := by kernel_rfl
theorem fa112_9 (b off : Nat) : afield tb 112 (.pointer (some ⟨b, off, none⟩)) 9 = some (.pointer (some ⟨b, off + 9, none⟩)) := by kernel_rfl
theorem fp112_9 (c0 c1 c2 c3 c4 c5 c6 c7 c8 c9 c10 : Value) : apick tb 112 (.agg #[c0, c1, c2, c3, c4, c5, c6, c7, c8, c9, c10]) 9 = some c9 := by kernel_rfl
theorem fa112_10 (b off : Nat) : afield tb 112 (.pointer (some ⟨b, off, none⟩)) 10 = some (.pointer (some ⟨b, off + 10, none⟩)) := by kernel_rfl
theorem fp112_10 (c0 c1 c2 c3 c4 c5 c6 c7 c8 c9 c10 : Value) : apick tb 112 (.agg #[c0, c1, c2, c3, c4, c5, c6, c7, c8, c9, c10]) 10 = some c10 := by kernel_rfl
attribute [go_sem] ty2 ty3 ty4 ty5 ty6 ty7 ty8 ty9 ty10 ty11 ty12 ty13 ty14 ty15 ty16 ty17 ty18 ty19 ty21 ty22 ty23 ty24 ty25 ty26 ty27 ty28 ty31 ty32 ty34 ty98 ty99 ty100 ty101 ty102 ty104 ty105 ty106 ty108 ty109 ty110 ty111 ty112 ty113 lp2 sp2 lp3 sp3 lp4 sp4 lp5 sp5 lp6 sp6 lp7 sp7 lp8 sp8 lp9 sp9 lp10 sp10 lp11 sp11 lp12 sp12 lp13 sp13 lp14 sp14 lp15 sp15 lp16 sp16 lp17 sp17 lp18 sp18 lp19 sp19 lp21 sp21 lp22 sp22 lp23 sp23 lp24 sp24 lp25 sp25 lp26 sp26 lp27 sp27 lp28 sp28 lp31 sp31 lp32 sp32 lp34 sp34 lp98 sp98 lp99 sp99 lp104 sp104 lp105 sp105 lp106 sp106 lp108 sp108 lp109 sp109 lp110 sp110 lp111 sp111 lp112 sp112 lp113 sp113 fa7_0 fp7_0 fa7_1 fp7_1 fa7_2 fp7_2 fa7_3 fp7_3 fa8_0 fp8_0 fa8_1 fp8_1 fa8_2 fp8_2 fa8_3 fp8_3 fa13_0 fp13_0 fa13_1 fp13_1 fa14_0 fp14_0 fa14_1 fp14_1 fa18_0 fp18_0 fa19_0 fp19_0 fa24_0 fp24_0 fa24_1 fp24_1 fa25_0 fp25_0 fa25_1 fp25_1 fa27_0 fp27_0 fa27_1 fp27_1 fa27_2 fp27_2 fa28_0 fp28_0 fa28_1 fp28_1 fa28_2 fp28_2 fa31_0 fp31_0 fa31_1 fp31_1 fa32_0 fp32_0 fa32_1 fp32_1 fa98_0 fp98_0 fa98_1 fp98_1 fa98_2 fp98_2 fa98_3 fp98_3 fa99_0 fp99_0 fa99_1 fp99_1 fa99_2 fp99_2 fa99_3 fp99_3 fa111_0 fp111_0 fa111_1 fp111_1 fa111_2 fp111_2 fa111_3 fp111_3 fa111_4 fp111_4 fa111_5 fp111_5 fa111_6 fp111_6 fa111_7 fp111_7 fa111_8 fp111_8 fa111_9 fp111_9 fa111_10 fp111_10 fa112_0 fp112_0 fa112_1 fp112_1 fa112_2 fp112_2 fa112_3 fp112_3 fa112_4 fp112_4 fa112_5 fp112_5 fa112_6 fp112_6 fa112_7 fp112_7 fa112_8 fp112_8 fa112_9 fp112_9 fa112_10 fp112_10
end Go.Proofs.K

/- The seat's types of slices: how their elements are reached. -/
set_option linter.unusedVariables false
set_option maxRecDepth 8000
set_option maxHeartbeats 4000000
set_option linter.unusedSimpArgs false
namespace Go.Proofs.K
open Go Go.Ab
attribute [go_sem] IntWalk.i64_in

theorem stI : STy tb 23 3 1 := ⟨_, _, ty23, rfl, ty3, rfl, by decide, rfl, by decide, by decide, fun _ => rfl, fun h => absurd rfl h⟩
theorem stII : STy tb 26 23 1 := ⟨_, _, ty26, rfl, ty23, rfl, by decide, rfl, by decide, by decide, fun _ => rfl, fun h => absurd rfl h⟩
theorem stT : STy tb 22 32 2 := ⟨_, _, ty22, rfl, ty32, rfl, by decide, rfl, by decide, by decide, fun h => absurd h (by decide), fun _ => rfl⟩
section
variable {H : AH} {a : Option Addr} {n c : Nat}
theorem ixI {l : List Int} (h : Ints H (.slice a n c) l) (k : IntKind) (z : Int) (hz : 0 ≤ z ∧ z < l.length) : aindex tb 23 (.slice a n c) (.int k z) = some (elp a c z 0) := h.ix ty23 rfl ty3 rfl k z hz
theorem ldI {l : List Int} (h : Ints H (.slice a n c) l) (z : Int) (hz : 0 ≤ z ∧ z < l.length) : aload tb 3 (elp a c z 0) H.get = some (.int .i64 (gi l z)) := h.ld1 ty3 rfl z 0 (h.cell z hz)
theorem ixII {l : List (List Int)} (h : Intss H (.slice a n c) l) (k : IntKind) (z : Int) (hz : 0 ≤ z ∧ z < l.length) : aindex tb 26 (.slice a n c) (.int k z) = some (elp a c z 0) := h.ix ty26 rfl ty23 rfl k z hz
theorem ldII {l : List (List Int)} (h : Intss H (.slice a n c) l) (i : Nat) (hi : i < l.length) : ∃ v, aload tb 23 (elp a c i 0) H.get = some v ∧ Ints H v l[i] := by
  obtain ⟨x, hx, u, hu, hr⟩ := h.at_ i hi
  rw [List.getElem?_eq_getElem hi] at hx
  cases hx
  exact ⟨u, h.ld1 ty23 rfl i 0 (by simpa using hu), hr⟩
end
end Go.Proofs.K

/- Functions on numbers and lists of numbers. -/
set_option linter.unusedVariables false
set_option maxRecDepth 8000
set_option maxHeartbeats 4000000
set_option linter.unusedSimpArgs false
namespace Go.Proofs.K
open Go Go.Ab

theorem EqNumbers_ok (H : AH) (a b : List Int) (va vb : Value) (ha : Ints H va a) (hb : Ints H vb b) : Runs tb 29 [va, vb] H (fun r H' => r = .bool (decide (a = b)) ∧ H' = H) := by
  have bd := ha.bd
  obtain ⟨p, c, rfl⟩ := ha.inv
  obtain ⟨q, d, rfl⟩ := hb.inv
  refine Runs_fn (fn := Try.f29) [.tmp 4] [0, 1, 4, 5] [] 3000 (by kernel_rfl) rfl (by kernel_rfl) (by kernel_rfl) rfl ?_; simp only [pad, argAt]
  simp (disch := omega) only [go_sem, Nat.reduceEqDiff, Nat.reduceAdd, ↓reduceIte]
  refine Split.mk (fun hl => ?_) (fun hl => ?_)
  · simp (disch := omega) only [go_sem, Nat.reduceEqDiff, Nat.reduceAdd, ↓reduceIte]
    refine ⟨?_, trivial⟩
    congr 1; symm; rw [decide_eq_false_iff_not]; rintro rfl; exact hl rfl
  · simp (disch := omega) only [go_sem, Nat.reduceEqDiff, Nat.reduceAdd, ↓reduceIte]
    refine Sat_loop 3000 (fun k H' V => ∃ i : Nat, i ≤ a.length ∧ k = a.length - i ∧ (∀ j, j < i → a[j]? = b[j]?) ∧ V = [.slice p a.length c, .slice q b.length d, .bool false, .int .i64 i] ∧ H' = H) a.length ⟨0, by omega, by omega, by omega, rfl, rfl⟩ ?_
    rintro k H' V ⟨i, hi, rfl, hj, rfl, rfl⟩ ih
    simp (disch := omega) only [go_sem, Nat.reduceEqDiff, Nat.reduceAdd, ↓reduceIte]
    refine Split.mk (fun h1 => ?_) (fun h1 => ?_)
    · simp (disch := omega) only [go_sem, Nat.reduceEqDiff, Nat.reduceAdd, ↓reduceIte, ixI ha, ixI hb, ldI ha, ldI hb]
      refine Split.mk (fun h2 => ?_) (fun h2 => ?_)
      · simp (disch := omega) only [go_sem, Nat.reduceEqDiff, Nat.reduceAdd, ↓reduceIte]
        refine ⟨?_, trivial⟩
        congr 1; symm; rw [decide_eq_false_iff_not]; rintro rfl; exact h2 rfl
      · simp (disch := omega) only [go_sem, Nat.reduceEqDiff, Nat.reduceAdd, ↓reduceIte]
        refine ih _ _ _ ?_ ⟨i+1, ?_, rfl, ?_, rfl, rfl⟩
        · omega
        · omega
        · intro j hj'
          by_cases e : j < i
          · exact hj j e
          · obtain rfl : j = i := by omega
            have h3 : j < a.length := by omega
            have h4 : j < b.length := by omega
            simpa [gi, List.getD_eq_getElem?_getD, h3, h4] using h2
    · simp (disch := omega) only [go_sem, Nat.reduceEqDiff, Nat.reduceAdd, ↓reduceIte]
      refine ⟨?_, trivial⟩
      congr 1; symm; rw [decide_eq_true_eq]
      apply List.ext_getElem?
      intro j
      by_cases e : j < i
      · exact hj j e
      · rw [List.getElem?_eq_none (by omega), List.getElem?_eq_none (by omega)]

theorem Product_ok (H : AH) (a : List Int) (va : Value) (ha : Ints H va a) : Runs tb 79 [va] H (fun r H' => r = .int .i64 (prodL a) ∧ H' = H) := by
  have bd := ha.bd
  obtain ⟨p, c, rfl⟩ := ha.inv
  refine Runs_fn (fn := Try.f79) [.tmp 2] [0, 2, 3, 5, 6, 7, 8] [] 3000 (by kernel_rfl) rfl (by kernel_rfl) (by kernel_rfl) rfl ?_; simp only [pad, argAt]
  simp (disch := omega) only [go_sem, Nat.reduceEqDiff, Nat.reduceAdd, ↓reduceIte]
  refine Sat_loop 3000 (fun k H' V => ∃ (i : Nat) (x : Value), i ≤ a.length ∧ k = a.length - i ∧ V = [.slice p a.length c, .int .i64 0, .int .i64 ((a.take i).foldl (fun n x => w64 (n * x)) 1), x, .slice p a.length c, .int .i64 a.length, .int .i64 i] ∧ H' = H) a.length ⟨0, _, by omega, by omega, rfl, rfl⟩ ?_
  rintro k H' V ⟨i, x, hi, rfl, rfl, rfl⟩ ih
  simp (disch := omega) only [go_sem, Nat.reduceEqDiff, Nat.reduceAdd, ↓reduceIte]
  refine Split.mk (fun h1 => ?_) (fun h1 => ?_)
  · simp (disch := omega) only [go_sem, Nat.reduceEqDiff, Nat.reduceAdd, ↓reduceIte, ixI ha, ldI ha]
    refine ih _ _ _ ?_ ⟨i+1, .int .i64 (gi a i), ?_, rfl, ?_, rfl⟩
    · omega
    · omega
    · rw [foldl_take_succ _ _ _ _ (by omega), gi_eq (by omega)]; rfl
  · simp (disch := omega) only [go_sem, Nat.reduceEqDiff, Nat.reduceAdd, ↓reduceIte]
    refine ⟨?_, trivial⟩
    rw [List.take_of_length_le (by omega)]; rfl

theorem Cells_ok (H : AH) (a : List Int) (va : Value) (ha : Ints H va a) : Runs tb 42 [va] H (fun r H' => r = .int .i64 (prodL a) ∧ H' = H) := by
  have bd := ha.bd
  obtain ⟨p, c, rfl⟩ := ha.inv
  refine Runs_fn (fn := Try.f42) [.tmp 2] [0, 2, 3, 4] [] 3000 (by kernel_rfl) rfl (by kernel_rfl) (by kernel_rfl) rfl ?_; simp only [pad, argAt]
  simp (disch := omega) only [go_sem, Nat.reduceEqDiff, Nat.reduceAdd, ↓reduceIte]
  refine Sat_loop 3000 (fun k H' V => ∃ i : Nat, i ≤ a.length ∧ k = a.length - i ∧ V = [.slice p a.length c, .int .i64 0, .int .i64 ((a.take i).foldl (fun n x => w64 (n * x)) 1), .int .i64 i] ∧ H' = H) a.length ⟨0, by omega, by omega, rfl, rfl⟩ ?_
  rintro k H' V ⟨i, hi, rfl, rfl, rfl⟩ ih
  simp (disch := omega) only [go_sem, Nat.reduceEqDiff, Nat.reduceAdd, ↓reduceIte]
  refine Split.mk (fun h1 => ?_) (fun h1 => ?_)
  · simp (disch := omega) only [go_sem, Nat.reduceEqDiff, Nat.reduceAdd, ↓reduceIte, ixI ha, ldI ha]
    refine ih _ _ _ ?_ ⟨i+1, ?_, rfl, ?_, rfl⟩
    · omega
    · omega
    · rw [foldl_take_succ _ _ _ _ (by omega), gi_eq (by omega)]; rfl
  · simp (disch := omega) only [go_sem, Nat.reduceEqDiff, Nat.reduceAdd, ↓reduceIte]
    refine ⟨?_, trivial⟩
    rw [List.take_of_length_le (by omega)]; rfl

theorem Between_ok (H : AH) (n lo hi : Int) : Runs tb 24 [.int .i64 n, .int .i64 lo, .int .i64 hi] H (fun r H' => r = .bool (decide (lo ≤ n) && decide (n ≤ hi)) ∧ H' = H) := by
  refine Runs_fn (fn := Try.f24) [.tmp 6] [0, 1, 2, 6] [] 3000 (by kernel_rfl) rfl (by kernel_rfl) (by kernel_rfl) rfl ?_; simp only [pad, argAt]
  simp (disch := omega) only [go_sem, Nat.reduceEqDiff, Nat.reduceAdd, ↓reduceIte]
  refine SplitG.mk (fun h1 => ?_) (fun h1 => ?_)
  · simp (disch := omega) only [go_sem, Nat.reduceEqDiff, Nat.reduceAdd, ↓reduceIte]
    simp [h1]
  · simp (disch := omega) only [go_sem, Nat.reduceEqDiff, Nat.reduceAdd, ↓reduceIte]
    simp [h1]

theorem RefDims_ok (H : AH) (a : List Int) (va : Value) (ha : Ints H va a) : Runs tb 41 [va] H (fun r H' => r = .bool (mayP a) ∧ H' = H) := by
  have bd := ha.bd
  obtain ⟨p, c, rfl⟩ := ha.inv
  refine Runs_fn (fn := Try.f41) [.tmp 2] [0, 2, 3, 4] [] 3000 (by kernel_rfl) rfl (by kernel_rfl) (by kernel_rfl) rfl ?_; simp only [pad, argAt]
  simp (disch := omega) only [go_sem, Nat.reduceEqDiff, Nat.reduceAdd, ↓reduceIte]
  refine callW_of (Between_ok ..) ?_
  rintro r H1 ⟨rfl, rfl⟩
  simp (disch := omega) only [go_sem, Nat.reduceEqDiff, Nat.reduceAdd, ↓reduceIte]
  refine Split.mk (fun h1 => ?_) (fun h1 => ?_)
  · simp (disch := omega) only [go_sem, Nat.reduceEqDiff, Nat.reduceAdd, ↓reduceIte]
    refine ⟨?_, trivial⟩
    simp only [mayP]
    congr 1
    simp only [Bool.and_eq_false_iff, decide_eq_false_iff_not] at h1
    rcases h1 with h1 | h1
    · simp; intro h; omega
    · simp; intro _ h; omega
  · simp (disch := omega) only [go_sem, Nat.reduceEqDiff, Nat.reduceAdd, ↓reduceIte]
    simp only [Bool.not_eq_false, Bool.and_eq_true, decide_eq_true_eq] at h1
    refine Sat_loop 3000 (fun k H' V => ∃ i : Nat, i ≤ a.length ∧ k = a.length - i ∧ (a.take i).all okDim = true ∧ V = [.slice p a.length c, .bool false, .int .i64 ((a.take i).foldl (fun n x => w64 (n * x)) 1), .int .i64 i] ∧ H' = H1) a.length ⟨0, by omega, by omega, by simp, rfl, rfl⟩ ?_
    rintro k H' V ⟨i, hi, rfl, hal, rfl, rfl⟩ ih
    simp (disch := omega) only [go_sem, Nat.reduceEqDiff, Nat.reduceAdd, ↓reduceIte]
    refine Split.mk (fun h2 => ?_) (fun h2 => ?_)
    · have hi' : i < a.length := by omega
      simp (disch := omega) only [go_sem, Nat.reduceEqDiff, Nat.reduceAdd, ↓reduceIte, ixI ha, ldI ha]
      refine callW_of (Between_ok ..) ?_
      rintro r H1 ⟨rfl, rfl⟩
      simp (disch := omega) only [go_sem, Nat.reduceEqDiff, Nat.reduceAdd, ↓reduceIte]
      refine Split.mk (fun h3 => ?_) (fun h3 => ?_)
      · simp (disch := omega) only [go_sem, Nat.reduceEqDiff, Nat.reduceAdd, ↓reduceIte]
        refine ⟨?_, trivial⟩
        have : a.all okDim = false := by
          rw [List.all_eq_false]
          refine ⟨a[i], List.getElem_mem _, ?_⟩
          rw [gi_eq hi'] at h3
          simpa [okDim] using h3
        simp [mayP, this]
      · simp (disch := omega) only [go_sem, Nat.reduceEqDiff, Nat.reduceAdd, ↓reduceIte, ixI ha, ldI ha]
        refine ih _ _ _ ?_ ⟨i+1, ?_, rfl, ?_, ?_, rfl⟩
        · omega
        · omega
        · rw [← List.take_append_getElem hi', List.all_append, hal]
          rw [gi_eq hi'] at h3
          simpa [okDim] using h3
        · rw [foldl_take_succ _ _ _ _ hi', gi_eq hi']; rfl
    · simp (disch := omega) only [go_sem, Nat.reduceEqDiff, Nat.reduceAdd, ↓reduceIte]
      refine ⟨?_, trivial⟩
      have hl : i = a.length := by omega
      subst hl
      rw [List.take_of_length_le (Nat.le_refl _)] at hal ⊢
      have e1 : decide (1 ≤ a.length) = true := by simp; omega
      have e2 : decide (a.length ≤ 3) = true := by simp; omega
      congr 1; rw [Bool.eq_iff_iff]; simp [mayP, hal, e1, e2, prodL]; exact decide_eq_true_iff.symm

/-- Where the first of a slice's elements is of which something holds. -/
theorem IndexFuncI_ok (H : AH) (l : List Int) (v : Value) (h : Ints H v l) (g : FuncId) (caps : Array Value) (p : Nat → Bool) (hp : ∀ i, i < l.length → Runs tb g (.int .i64 (gi l i) :: caps.toList) H (fun r H' => r = .bool (p i) ∧ H' = H)) :
    Runs tb 115 [v, .func (.func g) #[] caps] H (fun r H' => r = .int .i64 (firstI p l.length) ∧ H' = H) := by
  have bd := h.bd
  obtain ⟨a, c, rfl⟩ := h.inv
  refine Runs_fn (fn := Try.f115) [.tmp 4] [0, 1, 4, 5, 7, 8] [] 3000 (by kernel_rfl) rfl (by kernel_rfl) (by kernel_rfl) rfl ?_; simp only [pad, argAt]
  simp (disch := omega) only [go_sem, Nat.reduceEqDiff, Nat.reduceAdd, ↓reduceIte]
  refine Sat_loop 3000 (fun k H' V => ∃ (i : Nat) (x : Value), i ≤ l.length ∧ k = l.length - i ∧ (∀ j, j < i → p j = false) ∧ V = [.slice a l.length c, .func (.func g) #[] caps, .int .i64 0, x, .int .i64 l.length, .int .i64 i] ∧ H' = H) l.length ⟨0, _, by omega, by omega, by omega, rfl, rfl⟩ ?_
  rintro k H' V ⟨i, x, hi, rfl, hj, rfl, rfl⟩ ih
  simp (disch := omega) only [go_sem, Nat.reduceEqDiff, Nat.reduceAdd, ↓reduceIte]
  refine Split.mk (fun h1 => ?_) (fun h1 => ?_)
  · simp (disch := omega) only [go_sem, Nat.reduceEqDiff, Nat.reduceAdd, ↓reduceIte, ixI h, ldI h]
    refine callW_of (hp i (by omega)) ?_
    rintro r H1 ⟨rfl, rfl⟩
    simp (disch := omega) only [go_sem, Nat.reduceEqDiff, Nat.reduceAdd, ↓reduceIte]
    refine Split.mk (fun h2 => ?_) (fun h2 => ?_)
    · simp (disch := omega) only [go_sem, Nat.reduceEqDiff, Nat.reduceAdd, ↓reduceIte]
      refine ⟨?_, trivial⟩
      rw [firstI_at (by omega) h2 hj]
    · simp (disch := omega) only [go_sem, Nat.reduceEqDiff, Nat.reduceAdd, ↓reduceIte]
      refine ih _ _ _ ?_ ⟨i+1, .int .i64 i, ?_, rfl, ?_, rfl, rfl⟩
      · omega
      · omega
      · intro j hj'
        by_cases e : j < i
        · exact hj j e
        · obtain rfl : j = i := by omega
          simpa using h2
  · simp (disch := omega) only [go_sem, Nat.reduceEqDiff, Nat.reduceAdd, ↓reduceIte]
    refine ⟨?_, trivial⟩
    rw [firstI_none fun j hj' => hj j (by omega)]

theorem ContainsFuncI_ok (H : AH) (l : List Int) (v : Value) (h : Ints H v l) (g : FuncId) (caps : Array Value) (p : Nat → Bool) (hp : ∀ i, i < l.length → Runs tb g (.int .i64 (gi l i) :: caps.toList) H (fun r H' => r = .bool (p i) ∧ H' = H)) :
    Runs tb 99 [v, .func (.func g) #[] caps] H (fun r H' => r = .bool (decide (∃ i, i < l.length ∧ p i = true)) ∧ H' = H) := by
  refine Runs_fn (fn := Try.f99) [.tmp 4] [0, 1, 4] [] 3000 (by kernel_rfl) rfl (by kernel_rfl) (by kernel_rfl) rfl ?_; simp only [pad, argAt]
  simp (disch := omega) only [go_sem, Nat.reduceEqDiff, Nat.reduceAdd, ↓reduceIte]
  refine callW_of (IndexFuncI_ok H l v h g caps p hp) ?_
  rintro r H1 ⟨rfl, rfl⟩
  simp (disch := omega) only [go_sem, Nat.reduceEqDiff, Nat.reduceAdd, ↓reduceIte]
  refine ⟨?_, trivial⟩
  congr 1
  rw [decide_eq_decide]
  exact firstI_ge p l.length

theorem MayBad_ok (H : AH) (x : Int) : Runs tb 100 [.int .i64 x] H (fun r H' => r = .bool (!(okDim x)) ∧ H' = H) := by
  refine Runs_fn (fn := Try.f100) [.tmp 2] [0, 2] [] 3000 (by kernel_rfl) rfl (by kernel_rfl) (by kernel_rfl) rfl ?_; simp only [pad, argAt]
  simp (disch := omega) only [go_sem, Nat.reduceEqDiff, Nat.reduceAdd, ↓reduceIte]
  refine SplitG.mk (fun h1 => ?_) (fun h1 => ?_)
  · simp (disch := omega) only [go_sem, Nat.reduceEqDiff, Nat.reduceAdd, ↓reduceIte]
    refine ⟨?_, trivial⟩
    congr 1; rw [Bool.eq_iff_iff]; simp [okDim]; omega
  · simp (disch := omega) only [go_sem, Nat.reduceEqDiff, Nat.reduceAdd, ↓reduceIte]
    refine ⟨?_, trivial⟩
    congr 1; rw [Bool.eq_iff_iff]; simp [okDim]; omega

theorem May_ok (H : AH) (a : List Int) (va : Value) (ha : Ints H va a) : Runs tb 58 [va] H (fun r H' => r = .bool (mayP a) ∧ H' = H) := by
  have bd := ha.bd
  obtain ⟨p, c, rfl⟩ := ha.inv
  refine Runs_fn (fn := Try.f58) [.tmp 2] [0, 2] [] 3000 (by kernel_rfl) rfl (by kernel_rfl) (by kernel_rfl) rfl ?_; simp only [pad, argAt]
  simp (disch := omega) only [go_sem, Nat.reduceEqDiff, Nat.reduceAdd, ↓reduceIte]
  refine SplitG.mk (fun h1 => ?_) (fun h1 => ?_)
  · simp (disch := omega) only [go_sem, Nat.reduceEqDiff, Nat.reduceAdd, ↓reduceIte]
    refine ⟨?_, trivial⟩
    congr 1; rw [Bool.eq_iff_iff]; simp [mayP]; intro h; omega
  · simp (disch := omega) only [go_sem, Nat.reduceEqDiff, Nat.reduceAdd, ↓reduceIte]
    refine SplitG.mk (fun h2 => ?_) (fun h2 => ?_)
    · simp (disch := omega) only [go_sem, Nat.reduceEqDiff, Nat.reduceAdd, ↓reduceIte]
      refine ⟨?_, trivial⟩
      congr 1; rw [Bool.eq_iff_iff]; simp [mayP]; intro h h'; omega
    · simp (disch := omega) only [go_sem, Nat.reduceEqDiff, Nat.reduceAdd, ↓reduceIte]
      refine callW_of (ContainsFuncI_ok _ _ _ ha _ #[] (fun i => !(okDim (gi a i))) fun i hi => MayBad_ok _ _) ?_
      rintro r H1 ⟨rfl, rfl⟩
      have hall : (∃ i, i < a.length ∧ (!(okDim (gi a i))) = true) ↔ a.all okDim = false := all_any a okDim _ (fun i hi => by rw [gi_eq hi])
      simp (disch := omega) only [go_sem, Nat.reduceEqDiff, Nat.reduceAdd, ↓reduceIte]
      refine Split.mk (fun h3 => ?_) (fun h3 => ?_)
      · simp (disch := omega) only [go_sem, Nat.reduceEqDiff, Nat.reduceAdd, ↓reduceIte]
        refine ⟨?_, trivial⟩
        simp [mayP, hall.1 h3]
      · simp (disch := omega) only [go_sem, Nat.reduceEqDiff, Nat.reduceAdd, ↓reduceIte]
        refine callW_of (Product_ok _ _ _ ha) ?_
        rintro r H1 ⟨rfl, rfl⟩
        simp (disch := omega) only [go_sem, Nat.reduceEqDiff, Nat.reduceAdd, ↓reduceIte]
        refine ⟨?_, trivial⟩
        rw [hall] at h3
        simp only [Bool.not_eq_false] at h3
        have e1 : decide (1 ≤ a.length) = true := by simp; omega
        have e2 : decide (a.length ≤ 3) = true := by simp; omega
        congr 1; rw [Bool.eq_iff_iff]; simp [mayP, h3, e1, e2]
end Go.Proofs.K

/- What kinds there are; forms. -/
set_option linter.unusedVariables false
set_option maxRecDepth 8000
set_option maxHeartbeats 4000000
set_option linter.unusedSimpArgs false
namespace Go.Proofs.K
open Go Go.Ab

theorem num_ok (H : AH) (e : Int) : Runs tb 26 [.int .i64 e] H (fun r H' => r = .int .i64 e ∧ H' = H) := by
  refine Runs_fn (fn := Try.f26) [.tmp 2] [0, 2] [] 3000 (by kernel_rfl) rfl (by kernel_rfl) (by kernel_rfl) rfl ?_; simp only [pad, argAt]
  simp (disch := omega) only [go_sem, Nat.reduceEqDiff, Nat.reduceAdd, ↓reduceIte, and_self]
theorem Many_ok (H : AH) (k : Int) : Runs tb 59 [.int .i64 k] H (fun r H' => r = .int .i64 (manyP k) ∧ H' = H) := by
  refine Runs_fn (fn := Try.f59) [.tmp 2] [0, 2, 3, 4, 8] [] 3000 (by kernel_rfl) rfl (by kernel_rfl) (by kernel_rfl) rfl ?_; simp only [pad, argAt]
  repeat' (first | refine Split.mk (fun _ => ?_) (fun _ => ?_) | refine SplitG.mk (fun _ => ?_) (fun _ => ?_) | simp (disch := omega) only [go_sem, Nat.reduceEqDiff, Nat.reduceAdd, ↓reduceIte])
  all_goals (refine ⟨?_, trivial⟩; congr 1; unfold manyP; split <;> (try split) <;> omega)
theorem RefMany_ok (H : AH) (k : Int) : Runs tb 84 [.int .i64 k] H (fun r H' => r = .int .i64 (if 1 ≤ k ∧ k ≤ 17 then manyP k else -1) ∧ H' = H) := by
  refine Runs_fn (fn := Try.f84) [.tmp 2] [0, 2, 3, 4, 8] [] 3000 (by kernel_rfl) rfl (by kernel_rfl) (by kernel_rfl) rfl ?_; simp only [pad, argAt]
  repeat' (first | refine Split.mk (fun _ => ?_) (fun _ => ?_) | refine SplitG.mk (fun _ => ?_) (fun _ => ?_) | simp (disch := omega) only [go_sem, Nat.reduceEqDiff, Nat.reduceAdd, ↓reduceIte])
  case refine_2.refine_2.refine_2.refine_2.refine_2.refine_2.refine_2.refine_2.refine_2 =>
    refine callW_of (Between_ok ..) ?_
    rintro r H1 ⟨rfl, rfl⟩
    simp (disch := omega) only [go_sem, Nat.reduceEqDiff, Nat.reduceAdd, ↓reduceIte]
    refine Split.mk (fun h => ?_) (fun h => ?_)
    · simp (disch := omega) only [go_sem, Nat.reduceEqDiff, Nat.reduceAdd, ↓reduceIte]
      simp only [Bool.and_eq_true, decide_eq_true_eq] at h
      refine ⟨?_, trivial⟩
      congr 1; unfold manyP; rw [if_pos (by omega), if_neg (by omega), if_neg (by omega)]
    · simp (disch := omega) only [go_sem, Nat.reduceEqDiff, Nat.reduceAdd, ↓reduceIte]
      simp only [Bool.and_eq_true, decide_eq_true_eq] at h
      refine ⟨?_, trivial⟩
      congr 1; rw [if_neg (by omega)]
  all_goals (refine ⟨?_, trivial⟩; congr 1; rw [if_pos (by omega)]; unfold manyP; split <;> (try split) <;> omega)
theorem Named_ok (H : AH) (k : Int) : Runs tb 62 [.int .i64 k] H (fun r H' => r = .bool (namedP k) ∧ H' = H) := by
  refine Runs_fn (fn := Try.f62) [.tmp 2] [0, 2] [] 3000 (by kernel_rfl) rfl (by kernel_rfl) (by kernel_rfl) rfl ?_; simp only [pad, argAt]
  repeat' (first | refine Split.mk (fun _ => ?_) (fun _ => ?_) | refine SplitG.mk (fun _ => ?_) (fun _ => ?_) | simp (disch := omega) only [go_sem, Nat.reduceEqDiff, Nat.reduceAdd, ↓reduceIte])
  all_goals (refine ⟨?_, trivial⟩; congr 1; rw [Bool.eq_iff_iff]; simp [namedP]; try omega)
theorem Asked_ok (H : AH) (k : Int) : Runs tb 85 [.int .i64 k] H (fun r H' => r = .bool (namedP k) ∧ H' = H) := by
  refine Runs_fn (fn := Try.f85) [.tmp 2] [0, 2] [] 3000 (by kernel_rfl) rfl (by kernel_rfl) (by kernel_rfl) rfl ?_; simp only [pad, argAt]
  simp (disch := omega) only [go_sem, Nat.reduceEqDiff, Nat.reduceAdd, ↓reduceIte]
  refine callW_of (Between_ok ..) ?_
  rintro r H1 ⟨rfl, rfl⟩
  simp (disch := omega) only [go_sem, Nat.reduceEqDiff, Nat.reduceAdd, ↓reduceIte]
  refine SplitG.mk (fun h => ?_) (fun h => ?_)
  · simp (disch := omega) only [go_sem, Nat.reduceEqDiff, Nat.reduceAdd, ↓reduceIte]
    refine callW_of (Between_ok ..) ?_
    rintro r H1 ⟨rfl, rfl⟩
    simp (disch := omega) only [go_sem, Nat.reduceEqDiff, Nat.reduceAdd, ↓reduceIte]
    refine ⟨?_, trivial⟩
    simp only [Bool.and_eq_true, decide_eq_true_eq, Bool.not_eq_true, Bool.and_eq_false_iff, decide_eq_false_iff_not, Bool.not_eq_false] at h
    congr 1; rw [Bool.eq_iff_iff]; simp [namedP]; omega
  · simp (disch := omega) only [go_sem, Nat.reduceEqDiff, Nat.reduceAdd, ↓reduceIte]
    refine ⟨?_, trivial⟩
    simp only [Bool.and_eq_true, decide_eq_true_eq, Bool.not_eq_true, Bool.and_eq_false_iff, decide_eq_false_iff_not] at h
    congr 1; rw [Bool.eq_iff_iff]; simp [namedP]; omega
theorem number_ok (H : AH) (k n : Int) : Runs tb 61 [.int .i64 k, .int .i64 n] H (fun r H' => r = .bool (numberP k n) ∧ H' = H) := by
  refine Runs_fn (fn := Try.f61) [.tmp 4] [0, 1, 4, 5, 6, 9] [] 3000 (by kernel_rfl) rfl (by kernel_rfl) (by kernel_rfl) rfl ?_; simp only [pad, argAt]
  repeat' (first | refine Split.mk (fun _ => ?_) (fun _ => ?_) | refine SplitG.mk (fun _ => ?_) (fun _ => ?_) | simp (disch := omega) only [go_sem, Nat.reduceEqDiff, Nat.reduceAdd, ↓reduceIte])
  all_goals (refine ⟨?_, trivial⟩; congr 1; rw [Bool.eq_iff_iff]; simp [numberP]; try (repeat (split; try omega)))
  all_goals omega
theorem FormBad_ok (H : AH) (a : List Int) (va : Value) (ha : Ints H va a) : Runs tb 57 [va] H (fun r H' => r = .bool (!(mayP a)) ∧ H' = H) := by
  refine Runs_fn (fn := Try.f57) [.tmp 2] [0, 2] [] 3000 (by kernel_rfl) rfl (by kernel_rfl) (by kernel_rfl) rfl ?_; simp only [pad, argAt]
  simp (disch := omega) only [go_sem, Nat.reduceEqDiff, Nat.reduceAdd, ↓reduceIte]
  refine callW_of (May_ok _ _ _ ha) ?_
  rintro r H1 ⟨rfl, rfl⟩
  simp (disch := omega) only [go_sem, Nat.reduceEqDiff, Nat.reduceAdd, ↓reduceIte, and_self]

theorem IndexFuncII_ok (H : AH) (l : List (List Int)) (v : Value) (h : Intss H v l) (g : FuncId) (caps : Array Value) (p : List Int → Bool) (hp : ∀ x u, Ints H u x → Runs tb g (u :: caps.toList) H (fun r H' => r = .bool (p x) ∧ H' = H)) :
    Runs tb 101 [v, .func (.func g) #[] caps] H (fun r H' => r = .int .i64 (firstI (fun i => p (l.getD i [])) l.length) ∧ H' = H) := by
  have bd := h.bd
  obtain ⟨a, c, rfl⟩ := h.inv
  refine Runs_fn (fn := Try.f101) [.tmp 4] [0, 1, 4, 5, 7, 8] [] 3000 (by kernel_rfl) rfl (by kernel_rfl) (by kernel_rfl) rfl ?_; simp only [pad, argAt]
  simp (disch := omega) only [go_sem, Nat.reduceEqDiff, Nat.reduceAdd, ↓reduceIte]
  refine Sat_loop 3000 (fun k H' V => ∃ (i : Nat) (x : Value), i ≤ l.length ∧ k = l.length - i ∧ (∀ j, j < i → p (l.getD j []) = false) ∧ V = [.slice a l.length c, .func (.func g) #[] caps, .int .i64 0, x, .int .i64 l.length, .int .i64 i] ∧ H' = H) l.length ⟨0, _, by omega, by omega, by omega, rfl, rfl⟩ ?_
  rintro k H' V ⟨i, x, hi, rfl, hj, rfl, rfl⟩ ih
  simp (disch := omega) only [go_sem, Nat.reduceEqDiff, Nat.reduceAdd, ↓reduceIte]
  refine Split.mk (fun h1 => ?_) (fun h1 => ?_)
  · have hi' : i < l.length := by omega
    obtain ⟨u, hu, hui⟩ := ldII h i hi'
    have hg : l.getD i [] = l[i]'(by omega) := by rw [List.getD_eq_getElem?_getD, List.getElem?_eq_getElem (by omega)]; rfl
    simp (disch := omega) only [go_sem, Nat.reduceEqDiff, Nat.reduceAdd, ↓reduceIte, ixII h, hu]
    refine callW_of (hp _ _ hui) ?_
    rintro r H1 ⟨rfl, rfl⟩
    rw [← hg]
    simp (disch := omega) only [go_sem, Nat.reduceEqDiff, Nat.reduceAdd, ↓reduceIte]
    refine Split.mk (fun h2 => ?_) (fun h2 => ?_)
    · simp (disch := omega) only [go_sem, Nat.reduceEqDiff, Nat.reduceAdd, ↓reduceIte]
      refine ⟨?_, trivial⟩
      rw [firstI_at (by omega) h2 hj]
    · simp (disch := omega) only [go_sem, Nat.reduceEqDiff, Nat.reduceAdd, ↓reduceIte]
      refine ih _ _ _ ?_ ⟨i+1, .int .i64 i, ?_, rfl, ?_, rfl, rfl⟩
      · omega
      · omega
      · intro j hj'
        by_cases e : j < i
        · exact hj j e
        · obtain rfl : j = i := by omega
          simpa using h2
  · simp (disch := omega) only [go_sem, Nat.reduceEqDiff, Nat.reduceAdd, ↓reduceIte]
    refine ⟨?_, trivial⟩
    rw [firstI_none fun j hj' => hj j (by omega)]
theorem ContainsFuncII_ok (H : AH) (l : List (List Int)) (v : Value) (h : Intss H v l) (g : FuncId) (caps : Array Value) (p : List Int → Bool) (hp : ∀ x u, Ints H u x → Runs tb g (u :: caps.toList) H (fun r H' => r = .bool (p x) ∧ H' = H)) :
    Runs tb 60 [v, .func (.func g) #[] caps] H (fun r H' => r = .bool (l.any p) ∧ H' = H) := by
  refine Runs_fn (fn := Try.f60) [.tmp 4] [0, 1, 4] [] 3000 (by kernel_rfl) rfl (by kernel_rfl) (by kernel_rfl) rfl ?_; simp only [pad, argAt]
  simp (disch := omega) only [go_sem, Nat.reduceEqDiff, Nat.reduceAdd, ↓reduceIte]
  refine callW_of (IndexFuncII_ok H l v h g caps p hp) ?_
  rintro r H1 ⟨rfl, rfl⟩
  simp (disch := omega) only [go_sem, Nat.reduceEqDiff, Nat.reduceAdd, ↓reduceIte]
  refine ⟨?_, trivial⟩
  congr 1
  rw [Bool.eq_iff_iff, decide_eq_true_eq, firstI_ge, List.any_eq_true]
  constructor
  · rintro ⟨i, hi, hp⟩
    rw [List.getD_eq_getElem?_getD, List.getElem?_eq_getElem hi] at hp
    exact ⟨l[i], List.getElem_mem _, hp⟩
  · rintro ⟨x, hx, hp⟩
    obtain ⟨i, hi, rfl⟩ := List.mem_iff_getElem.1 hx
    exact ⟨i, hi, by rw [List.getD_eq_getElem?_getD, List.getElem?_eq_getElem hi]; exact hp⟩
end Go.Proofs.K

/- Forms; equality; copies. -/
set_option linter.unusedVariables false
set_option maxRecDepth 8000
set_option maxHeartbeats 4000000
set_option linter.unusedSimpArgs false
namespace Go.Proofs.K
open Go Go.Ab

theorem form_ok (H : AH) (k n : Int) (d : List Int) (l : List (List Int)) (vd vl : Value) (hd : Ints H vd d) (hl : Intss H vl l) :
    Runs tb 36 [.int .i64 k, .int .i64 n, vd, vl] H (fun r H' => r = .bool (formP k n d l) ∧ H' = H) := by
  obtain ⟨pd, cd, rfl⟩ := hd.inv
  obtain ⟨pl, cl, rfl⟩ := hl.inv
  refine Runs_fn (fn := Try.f36) [.tmp 8] [0, 1, 2, 3, 8, 9] [] 3000 (by kernel_rfl) rfl (by kernel_rfl) (by kernel_rfl) rfl ?_; simp only [pad, argAt]
  simp (disch := omega) only [go_sem, Nat.reduceEqDiff, Nat.reduceAdd, ↓reduceIte]
  refine SplitG.mk (fun h1 => ?_) (fun h1 => ?_)
  · simp (disch := omega) only [go_sem, Nat.reduceEqDiff, Nat.reduceAdd, ↓reduceIte]
    refine ⟨?_, trivial⟩
    simp [formP, show ¬ 1 ≤ k by omega]
  · simp (disch := omega) only [go_sem, Nat.reduceEqDiff, Nat.reduceAdd, ↓reduceIte]
    refine SplitG.mk (fun h2 => ?_) (fun h2 => ?_)
    · simp (disch := omega) only [go_sem, Nat.reduceEqDiff, Nat.reduceAdd, ↓reduceIte]
      refine ⟨?_, trivial⟩
      simp [formP, show ¬ k ≤ 17 by omega]
    · simp (disch := omega) only [go_sem, Nat.reduceEqDiff, Nat.reduceAdd, ↓reduceIte]
      refine callW_of (Many_ok ..) ?_
      rintro r H1 ⟨rfl, rfl⟩
      simp (disch := omega) only [go_sem, Nat.reduceEqDiff, Nat.reduceAdd, ↓reduceIte]
      refine SplitG.mk (fun h3 => ?_) (fun h3 => ?_)
      · simp (disch := omega) only [go_sem, Nat.reduceEqDiff, Nat.reduceAdd, ↓reduceIte]
        refine ⟨?_, trivial⟩
        simp [formP, h3]
      · simp (disch := omega) only [go_sem, Nat.reduceEqDiff, Nat.reduceAdd, ↓reduceIte]
        refine callW_of (ContainsFuncII_ok _ _ _ hl _ #[] (fun x => !(mayP x)) fun x u hx => FormBad_ok _ _ _ hx) ?_
        rintro r H1 ⟨rfl, rfl⟩
        have hall : l.any (fun x => !(mayP x)) = !(l.all mayP) := by rw [List.not_all_eq_any_not]
        simp (disch := omega) only [go_sem, Nat.reduceEqDiff, Nat.reduceAdd, ↓reduceIte, hall]
        refine SplitG.mk (fun h4 => ?_) (fun h4 => ?_)
        · simp (disch := omega) only [go_sem, Nat.reduceEqDiff, Nat.reduceAdd, ↓reduceIte]
          refine callW_of (number_ok ..) ?_
          rintro r H1 ⟨rfl, rfl⟩
          simp (disch := omega) only [go_sem, Nat.reduceEqDiff, Nat.reduceAdd, ↓reduceIte]
          refine Split.mk (fun h5 => ?_) (fun h5 => ?_)
          · simp (disch := omega) only [go_sem, Nat.reduceEqDiff, Nat.reduceAdd, ↓reduceIte]
            refine ⟨?_, trivial⟩
            simp [formP, h5]
          · simp (disch := omega) only [go_sem, Nat.reduceEqDiff, Nat.reduceAdd, ↓reduceIte]
            refine callW_of (Named_ok ..) ?_
            rintro r H1 ⟨rfl, rfl⟩
            simp (disch := omega) only [go_sem, Nat.reduceEqDiff, Nat.reduceAdd, ↓reduceIte]
            have e1 : decide (1 ≤ k) = true := by simp; omega
            have e2 : decide (k ≤ 17) = true := by simp; omega
            have e3 : decide ((l.length : Int) = manyP k) = true := by simpa using h3
            have e4 : l.all mayP = true := by simpa using h4
            have e5 : numberP k n = true := by simpa using h5
            refine Split.mk (fun h6 => ?_) (fun h6 => ?_)
            · simp (disch := omega) only [go_sem, Nat.reduceEqDiff, Nat.reduceAdd, ↓reduceIte]
              refine callW_of (May_ok _ _ _ hd) ?_
              rintro r H1 ⟨rfl, rfl⟩
              simp (disch := omega) only [go_sem, Nat.reduceEqDiff, Nat.reduceAdd, ↓reduceIte]
              refine ⟨?_, trivial⟩
              simp only [formP, e1, e2, e3, e4, e5, h6, Bool.true_and, if_true]
            · simp (disch := omega) only [go_sem, Nat.reduceEqDiff, Nat.reduceAdd, ↓reduceIte]
              refine ⟨?_, trivial⟩
              simp only [formP, e1, e2, e3, e4, e5, h6, Bool.true_and, if_false]
              congr 1; rw [Bool.eq_iff_iff]; simp
        · simp (disch := omega) only [go_sem, Nat.reduceEqDiff, Nat.reduceAdd, ↓reduceIte]
          refine ⟨?_, trivial⟩
          simp only [Bool.not_eq_true', Bool.not_eq_true, Bool.not_eq_false'] at h4
          simp [formP, h4]

theorem Equal_ok (H : AH) (a b : List Int) (va vb : Value) (ha : Ints H va a) (hb : Ints H vb b) : Runs tb 78 [va, vb] H (fun r H' => r = .bool (decide (a = b)) ∧ H' = H) := by
  have bd := ha.bd
  obtain ⟨p, c, rfl⟩ := ha.inv
  obtain ⟨q, d, rfl⟩ := hb.inv
  refine Runs_fn (fn := Try.f78) [.tmp 4] [0, 1, 4, 5, 12, 13] [] 3000 (by kernel_rfl) rfl (by kernel_rfl) (by kernel_rfl) rfl ?_; simp only [pad, argAt]
  simp (disch := omega) only [go_sem, Nat.reduceEqDiff, Nat.reduceAdd, ↓reduceIte]
  refine Split.mk (fun hl => ?_) (fun hl => ?_)
  · simp (disch := omega) only [go_sem, Nat.reduceEqDiff, Nat.reduceAdd, ↓reduceIte]
    refine ⟨?_, trivial⟩
    congr 1; symm; rw [decide_eq_false_iff_not]; rintro rfl; exact hl rfl
  · simp (disch := omega) only [go_sem, Nat.reduceEqDiff, Nat.reduceAdd, ↓reduceIte]
    refine Sat_loop 3000 (fun k H' V => ∃ (i : Nat) (x : Value), i ≤ a.length ∧ k = a.length - i ∧ (∀ j, j < i → a[j]? = b[j]?) ∧ V = [.slice p a.length c, .slice q b.length d, .bool false, x, .int .i64 a.length, .int .i64 i] ∧ H' = H) a.length ⟨0, _, by omega, by omega, by omega, rfl, rfl⟩ ?_
    rintro k H' V ⟨i, x, hi, rfl, hj, rfl, rfl⟩ ih
    simp (disch := omega) only [go_sem, Nat.reduceEqDiff, Nat.reduceAdd, ↓reduceIte]
    refine Split.mk (fun h1 => ?_) (fun h1 => ?_)
    · simp (disch := omega) only [go_sem, Nat.reduceEqDiff, Nat.reduceAdd, ↓reduceIte, ixI ha, ixI hb, ldI ha, ldI hb]
      refine Split.mk (fun h2 => ?_) (fun h2 => ?_)
      · simp (disch := omega) only [go_sem, Nat.reduceEqDiff, Nat.reduceAdd, ↓reduceIte]
        refine ⟨?_, trivial⟩
        congr 1; symm; rw [decide_eq_false_iff_not]; rintro rfl; exact h2 rfl
      · simp (disch := omega) only [go_sem, Nat.reduceEqDiff, Nat.reduceAdd, ↓reduceIte]
        refine ih _ _ _ ?_ ⟨i+1, .int .i64 i, ?_, rfl, ?_, rfl, rfl⟩
        · omega
        · omega
        · intro j hj'
          by_cases e : j < i
          · exact hj j e
          · obtain rfl : j = i := by omega
            have h3 : j < a.length := by omega
            have h4 : j < b.length := by omega
            simpa [gi, List.getD_eq_getElem?_getD, h3, h4] using h2
    · simp (disch := omega) only [go_sem, Nat.reduceEqDiff, Nat.reduceAdd, ↓reduceIte]
      refine ⟨?_, trivial⟩
      congr 1; symm; rw [decide_eq_true_eq]
      apply List.ext_getElem?
      intro j
      by_cases e : j < i
      · exact hj j e
      · rw [List.getElem?_eq_none (by omega), List.getElem?_eq_none (by omega)]

/-- A list that was made since, in memory of its own. -/
def OwnI (H0 H : AH) (v : Value) (l : List Int) : Prop := Own H0 H 1 v l.length (l.map (.int .i64))
theorem OwnI.ints {H0 H : AH} {v : Value} {l : List Int} (h : OwnI H0 H v l) : Ints H v l :=
  Own.sl h rfl fun i x hx => by simp [RInt, hx]
theorem OwnI.ext {H0 H H' : AH} {v : Value} {l : List Int} (h : OwnI H0 H v l) (hE : Ext H H') : OwnI H0 H' v l := Own.ext h hE
theorem OwnI.nil (H0 H : AH) : OwnI H0 H (.slice none 0 0) [] := Own.nil
theorem Own.nil' : True := trivial
theorem OwnI.weak {H0 H1 H : AH} {v : Value} {l : List Int} (h : OwnI H1 H v l) (hs : H0.size ≤ H1.size) (hr : H1.ro = H0.ro) (h0 : H0.ro ≤ H0.size) : OwnI H0 H v l := by
  unfold OwnI at *
  generalize l.map (Value.int IntKind.i64) = xs at h
  generalize l.length = n at h
  cases h with
  | nil => exact .nil
  | mk b n xs hb hro hr' hg hl hn => exact .mk b n xs (by omega) h0 (hr'.trans hr) hg hl hn

/-- One number more. -/
theorem OwnI.app {H0 H : AH} {v x : Value} {l m : List Int} (h : OwnI H0 H v l) (h0 : H0.ro ≤ H0.size) (hE : Ext H0 H) (hx : alenOf x = some m.length) (hy : afirst 1 m.length x H = some (m.map (.int .i64))) (hb : (l.length + m.length) * 96 ≤ 140737488355328) :
    ∃ v' H', aappend tb 23 23 v x H = some (v', H') ∧ OwnI H0 H' v' (l ++ m) ∧ Ext H0 H' := by
  obtain ⟨v', H', e, ho, hE'⟩ := Own.append stI h h0 hE hx hy (by simp) hb
  exact ⟨v', H', e, by unfold OwnI; rw [List.length_append, List.map_append]; exact ho, hE'⟩
theorem flatMap_one {α β : Type} (f : α → β) (l : List α) : l.flatMap (fun x => [f x]) = l.map f := by
  induction l with
  | nil => rfl
  | cons x l ih => rw [List.flatMap_cons, ih]; rfl
theorem Ints.first {H : AH} {a : Option Addr} {n c : Nat} {l : List Int} (h : Ints H (.slice a n c) l) : afirst 1 n (.slice a n c) H = some (l.map (.int .i64)) := by
  have hf : ∀ (x : Int) (g : Nat → Option Value), RInt H g x → ([Value.int .i64 x] : List Value).length = 1 ∧ ∀ k, k < 1 → g k = ([Value.int .i64 x] : List Value)[k]? := fun x g hr => ⟨rfl, fun k hk => by
    obtain rfl : k = 0 := by omega
    exact hr⟩
  rw [afirst_sl h _ hf]
  rw [flatMap_one]

theorem CopyNumbers_ok (H : AH) (h0 : H.ro ≤ H.size) (l : List Int) (v : Value) (h : Ints H v l) (hb : l.length ≤ 1000000000000) : Runs tb 44 [v] H (fun r H' => OwnI H H' r l ∧ Ext H H') := by
  have bd := h.bd
  obtain ⟨p, c, rfl⟩ := h.inv
  refine Runs_fn (fn := Try.f44) [.tmp 2] [0, 2, 3, 4] [] 3000 (by kernel_rfl) rfl (by kernel_rfl) (by kernel_rfl) rfl ?_; simp only [pad, argAt]
  simp (disch := omega) only [go_sem, Nat.reduceEqDiff, Nat.reduceAdd, ↓reduceIte]
  refine Sat_loop 3000 (fun k H' V => ∃ (i : Nat) (m : Value), i ≤ l.length ∧ k = l.length - i ∧ OwnI H H' m (l.take i) ∧ Ext H H' ∧ V = [.slice p l.length c, .slice none 0 0, m, .int .i64 i]) l.length ⟨0, _, by omega, by omega, OwnI.nil _ _, Ext.refl H, rfl⟩ ?_
  rintro k H' V ⟨i, m, hi, rfl, hm, hE, rfl⟩ ih
  have h' := h.mono hE
  simp (disch := omega) only [go_sem, Nat.reduceEqDiff, Nat.reduceAdd, ↓reduceIte]
  refine Split.mk (fun h1 => ?_) (fun h1 => ?_)
  · have hi' : i < l.length := by omega
    obtain ⟨m', H2, e, ho, hE2⟩ := OwnI.app (hm.ext (Ext.push H' [.int .i64 (gi l i)])) h0 (hE.pushed _) (m := [gi l i]) (x := .slice (some ⟨H'.size, 0, none⟩) 1 1) rfl (afirst_block (by rw [AH.get_push, if_pos rfl]; rfl) rfl) (by simp; omega)
    simp (disch := omega) only [go_sem, Nat.reduceEqDiff, Nat.reduceAdd, ↓reduceIte, ixI h', ldI h', bslice_1 stI (.int .i64 (gi l i)) rfl, e]
    refine ih _ _ _ ?_ ⟨i+1, m', ?_, rfl, ?_, hE2, rfl⟩
    · omega
    · omega
    · rw [← List.take_append_getElem hi', ← gi_eq hi']; exact ho
  · simp (disch := omega) only [go_sem, Nat.reduceEqDiff, Nat.reduceAdd, ↓reduceIte]
    rw [List.take_of_length_le (by omega)] at hm
    exact ⟨hm, hE⟩

/-- A copy. -/
theorem Clone_ok (H : AH) (h0 : H.ro ≤ H.size) (l : List Int) (v : Value) (h : Ints H v l) (hb : l.length ≤ 1000000000000) : Runs tb 82 [v] H (fun r H' => OwnI H H' r l ∧ Ext H H') := by
  have bd := h.bd
  obtain ⟨p, c, rfl⟩ := h.inv
  refine Runs_fn (fn := Try.f82) [.tmp 2] [0, 2] [] 3000 (by kernel_rfl) rfl (by kernel_rfl) (by kernel_rfl) rfl ?_; simp only [pad, argAt]
  simp (disch := omega) only [go_sem, Nat.reduceEqDiff, Nat.reduceAdd, ↓reduceIte, eq_nil ty23 rfl]
  refine Split.mk (fun h1 => ?_) (fun h1 => ?_)
  · simp (disch := omega) only [go_sem, Nat.reduceEqDiff, Nat.reduceAdd, ↓reduceIte]
    cases p with
    | some p => cases h1
    | none =>
      rw [h.nil_of]
      exact ⟨OwnI.nil _ _, Ext.refl H⟩
  · have hE := Ext.push H []
    have ho : OwnI H (H.push []) (.slice (some ⟨H.size, 0, none⟩) 0 1) [] := Own.mk H.size 0 [] (Nat.le_refl _) h0 rfl (by rw [AH.get_push, if_pos rfl]) rfl (by omega)
    have h' := h.mono hE
    obtain ⟨m', H2, e, ho2, hE2⟩ := OwnI.app ho h0 hE (m := l) (x := .slice p l.length c) rfl (Ints.first h') (by simp; omega)
    simp (disch := omega) only [go_sem, Nat.reduceEqDiff, Nat.reduceAdd, ↓reduceIte, bslice_0 stI, e]
    exact ⟨by simpa using ho2, hE2⟩

theorem Grows_ok (H : AH) (a b : List Int) (va vb : Value) (ha : Ints H va a) (hb : Ints H vb b) : Runs tb 80 [va, vb] H (fun r H' => r = .bool (growsP a b) ∧ H' = H) := by
  have bd := ha.bd
  obtain ⟨p, c, rfl⟩ := ha.inv
  obtain ⟨q, d, rfl⟩ := hb.inv
  refine Runs_fn (fn := Try.f80) [.tmp 4] [0, 1, 4, 5, 6, 12, 13, 14] [] 3000 (by kernel_rfl) rfl (by kernel_rfl) (by kernel_rfl) rfl ?_; simp only [pad, argAt]
  simp (disch := omega) only [go_sem, Nat.reduceEqDiff, Nat.reduceAdd, ↓reduceIte]
  refine Split.mk (fun hl => ?_) (fun hl => ?_)
  · simp (disch := omega) only [go_sem, Nat.reduceEqDiff, Nat.reduceAdd, ↓reduceIte]
    refine ⟨?_, trivial⟩
    have : ¬ a.length = b.length := by omega
    simp [growsP, this]
  · have hl' : a.length = b.length := by omega
    simp (disch := omega) only [go_sem, Nat.reduceEqDiff, Nat.reduceAdd, ↓reduceIte]
    refine Sat_loop 3000 (fun k H' V => ∃ (i : Nat) (x y : Value), i ≤ a.length ∧ k = a.length - i ∧ (∀ j, j < i → gi a j = 1 ∨ gi a j = gi b j) ∧ V = [.slice p a.length c, .slice q b.length d, .bool false, x, y, .slice p a.length c, .int .i64 a.length, .int .i64 i] ∧ H' = H) a.length ⟨0, _, _, by omega, by omega, by omega, rfl, rfl⟩ ?_
    rintro k H' V ⟨i, x, y, hi, rfl, hj, rfl, rfl⟩ ih
    simp (disch := omega) only [go_sem, Nat.reduceEqDiff, Nat.reduceAdd, ↓reduceIte]
    refine Split.mk (fun h1 => ?_) (fun h1 => ?_)
    · simp (disch := omega) only [go_sem, Nat.reduceEqDiff, Nat.reduceAdd, ↓reduceIte, ixI ha, ldI ha]
      refine SplitG.mk (fun h2 => ?_) (fun h2 => ?_)
      · simp (disch := omega) only [go_sem, Nat.reduceEqDiff, Nat.reduceAdd, ↓reduceIte, ixI hb, ldI hb]
        refine Split.mk (fun h3 => ?_) (fun h3 => ?_)
        · simp (disch := omega) only [go_sem, Nat.reduceEqDiff, Nat.reduceAdd, ↓reduceIte]
          refine ⟨?_, trivial⟩
          congr 1; symm
          simp only [growsP, Bool.and_eq_false_iff, List.all_eq_false]
          exact .inr ⟨i, by simp; omega, by simp [h2, h3]⟩
        · simp (disch := omega) only [go_sem, Nat.reduceEqDiff, Nat.reduceAdd, ↓reduceIte]
          refine ih _ _ _ ?_ ⟨i+1, .int .i64 i, .int .i64 (gi a i), ?_, rfl, ?_, rfl, rfl⟩
          · omega
          · omega
          · intro j hj'
            by_cases e : j < i
            · exact hj j e
            · obtain rfl : j = i := by omega
              exact .inr (by omega)
      · simp (disch := omega) only [go_sem, Nat.reduceEqDiff, Nat.reduceAdd, ↓reduceIte]
        refine ih _ _ _ ?_ ⟨i+1, .int .i64 i, .int .i64 (gi a i), ?_, rfl, ?_, rfl, rfl⟩
        · omega
        · omega
        · intro j hj'
          by_cases e : j < i
          · exact hj j e
          · obtain rfl : j = i := by omega
            exact .inl (by omega)
    · simp (disch := omega) only [go_sem, Nat.reduceEqDiff, Nat.reduceAdd, ↓reduceIte]
      refine ⟨?_, trivial⟩
      congr 1; symm
      simp only [growsP, Bool.and_eq_true, decide_eq_true_eq, List.all_eq_true, Bool.or_eq_true]
      exact ⟨hl', fun j hj' => hj j (by simp at hj'; omega)⟩

theorem Wider_ok (H : AH) (a b : List Int) (va vb : Value) (ha : Ints H va a) (hb : Ints H vb b) : Runs tb 86 [va, vb] H (fun r H' => r = .bool (growsP a b) ∧ H' = H) := by
  have bd := ha.bd
  obtain ⟨p, c, rfl⟩ := ha.inv
  obtain ⟨q, d, rfl⟩ := hb.inv
  refine Runs_fn (fn := Try.f86) [.tmp 4] [0, 1, 4, 5] [] 3000 (by kernel_rfl) rfl (by kernel_rfl) (by kernel_rfl) rfl ?_; simp only [pad, argAt]
  simp (disch := omega) only [go_sem, Nat.reduceEqDiff, Nat.reduceAdd, ↓reduceIte]
  refine Split.mk (fun hl => ?_) (fun hl => ?_)
  · simp (disch := omega) only [go_sem, Nat.reduceEqDiff, Nat.reduceAdd, ↓reduceIte]
    refine ⟨?_, trivial⟩
    have : ¬ a.length = b.length := by omega
    simp [growsP, this]
  · have hl' : a.length = b.length := by omega
    simp (disch := omega) only [go_sem, Nat.reduceEqDiff, Nat.reduceAdd, ↓reduceIte]
    refine Sat_loop 3000 (fun k H' V => ∃ (i : Nat), i ≤ a.length ∧ k = a.length - i ∧ (∀ j, j < i → gi a j = 1 ∨ gi a j = gi b j) ∧ V = [.slice p a.length c, .slice q b.length d, .bool false, .int .i64 i] ∧ H' = H) a.length ⟨0, by omega, by omega, by omega, rfl, rfl⟩ ?_
    rintro k H' V ⟨i, hi, rfl, hj, rfl, rfl⟩ ih
    simp (disch := omega) only [go_sem, Nat.reduceEqDiff, Nat.reduceAdd, ↓reduceIte]
    refine Split.mk (fun h1 => ?_) (fun h1 => ?_)
    · simp (disch := omega) only [go_sem, Nat.reduceEqDiff, Nat.reduceAdd, ↓reduceIte, ixI ha, ldI ha, ixI hb, ldI hb]
      refine SplitG.mk (fun h2 => ?_) (fun h2 => ?_)
      · simp (disch := omega) only [go_sem, Nat.reduceEqDiff, Nat.reduceAdd, ↓reduceIte, ixI ha, ldI ha]
        refine Split.mk (fun h3 => ?_) (fun h3 => ?_)
        · simp (disch := omega) only [go_sem, Nat.reduceEqDiff, Nat.reduceAdd, ↓reduceIte]
          refine ⟨?_, trivial⟩
          congr 1; symm
          simp only [growsP, Bool.and_eq_false_iff, List.all_eq_false]
          exact .inr ⟨i, by simp; omega, by simp [h2, h3]⟩
        · simp (disch := omega) only [go_sem, Nat.reduceEqDiff, Nat.reduceAdd, ↓reduceIte]
          refine ih _ _ _ ?_ ⟨i+1, ?_, rfl, ?_, rfl, rfl⟩
          · omega
          · omega
          · intro j hj'
            by_cases e : j < i
            · exact hj j e
            · obtain rfl : j = i := by omega
              exact .inl (by omega)
      · simp (disch := omega) only [go_sem, Nat.reduceEqDiff, Nat.reduceAdd, ↓reduceIte]
        refine ih _ _ _ ?_ ⟨i+1, ?_, rfl, ?_, rfl, rfl⟩
        · omega
        · omega
        · intro j hj'
          by_cases e : j < i
          · exact hj j e
          · obtain rfl : j = i := by omega
            exact .inr (by omega)
    · simp (disch := omega) only [go_sem, Nat.reduceEqDiff, Nat.reduceAdd, ↓reduceIte]
      refine ⟨?_, trivial⟩
      congr 1; symm
      simp only [growsP, Bool.and_eq_true, decide_eq_true_eq, List.all_eq_true, Bool.or_eq_true]
      exact ⟨hl', fun j hj' => hj j (by simp at hj'; omega)⟩
end Go.Proofs.K

/- Dims. -/
set_option linter.unusedVariables false
set_option maxRecDepth 8000
set_option maxHeartbeats 4000000
set_option linter.unusedSimpArgs false
namespace Go.Proofs.K
open Go Go.Ab

theorem RefMay_ok (H : AH) (k n : Int) (d : List Int) (l : List (List Int)) (vd vl : Value) (hd : Ints H vd d) (hl : Intss H vl l) :
    Runs tb 45 [.int .i64 k, .int .i64 n, vd, vl] H (fun r H' => r = .bool (formP k n d l) ∧ H' = H) := by
  have bd := hl.bd
  obtain ⟨pd, cd, rfl⟩ := hd.inv
  obtain ⟨pl, cl, rfl⟩ := hl.inv
  refine Runs_fn (fn := Try.f45) [.tmp 8] [0, 1, 2, 3, 8, 9, 49, 50, 53] [] 3000 (by kernel_rfl) rfl (by kernel_rfl) (by kernel_rfl) rfl ?_; simp only [pad, argAt]
  simp (disch := omega) only [go_sem, Nat.reduceEqDiff, Nat.reduceAdd, ↓reduceIte]
  refine callW_of (RefMany_ok ..) ?_
  rintro r H1 ⟨rfl, rfl⟩
  have hm : 0 ≤ manyP k := by unfold manyP; split <;> (try split) <;> omega
  by_cases hk : 1 ≤ k ∧ k ≤ 17
  · simp (disch := omega) only [go_sem, Nat.reduceEqDiff, Nat.reduceAdd, ↓reduceIte, if_pos hk]
    refine callW_of (RefMany_ok ..) ?_
    rintro r H1 ⟨rfl, rfl⟩
    simp (disch := omega) only [go_sem, Nat.reduceEqDiff, Nat.reduceAdd, ↓reduceIte, if_pos hk]
    have e1 : decide (1 ≤ k) = true := by simp; omega
    have e2 : decide (k ≤ 17) = true := by simp; omega
    refine Split.mk (fun h1 => ?_) (fun h1 => ?_)
    · simp (disch := omega) only [go_sem, Nat.reduceEqDiff, Nat.reduceAdd, ↓reduceIte]
      refine ⟨?_, trivial⟩
      simp [formP, h1]
    · simp (disch := omega) only [go_sem, Nat.reduceEqDiff, Nat.reduceAdd, ↓reduceIte]
      have e3 : decide ((l.length : Int) = manyP k) = true := by simpa using h1
      refine Sat_loop 3000 (fun z H' V => ∃ (i : Nat), i ≤ l.length ∧ z = l.length - i ∧ (l.take i).all mayP = true ∧ V = [.int .i64 k, .int .i64 n, .slice pd d.length cd, .slice pl l.length cl, .bool false, .int .i64 i, undef, undef, undef] ∧ H' = H1) l.length ⟨0, by omega, by omega, by simp, rfl, rfl⟩ ?_
      rintro z H' V ⟨i, hi, rfl, hj, rfl, rfl⟩ ih
      simp (disch := omega) only [go_sem, Nat.reduceEqDiff, Nat.reduceAdd, ↓reduceIte]
      refine Split.mk (fun h2 => ?_) (fun h2 => ?_)
      · have hi' : i < l.length := by omega
        obtain ⟨u, hu, hui⟩ := ldII hl i hi'
        simp (disch := omega) only [go_sem, Nat.reduceEqDiff, Nat.reduceAdd, ↓reduceIte, ixII hl, hu]
        refine callW_of (RefDims_ok _ _ _ hui) ?_
        rintro r H1 ⟨rfl, rfl⟩
        simp (disch := omega) only [go_sem, Nat.reduceEqDiff, Nat.reduceAdd, ↓reduceIte]
        refine Split.mk (fun h3 => ?_) (fun h3 => ?_)
        · simp (disch := omega) only [go_sem, Nat.reduceEqDiff, Nat.reduceAdd, ↓reduceIte]
          refine ⟨?_, trivial⟩
          have : l.all mayP = false := by
            rw [List.all_eq_false]
            exact ⟨l[i], List.getElem_mem _, by simp [h3]⟩
          simp [formP, this]
        · simp (disch := omega) only [go_sem, Nat.reduceEqDiff, Nat.reduceAdd, ↓reduceIte]
          refine ih _ _ _ ?_ ⟨i+1, ?_, rfl, ?_, rfl, rfl⟩
          · omega
          · omega
          · rw [← List.take_append_getElem hi', List.all_append, hj]
            simpa using h3
      · clear ih
        have e4 : l.all mayP = true := by
          rw [List.take_of_length_le (by omega)] at hj
          exact hj
        simp (disch := omega) only [go_sem, Nat.reduceEqDiff, Nat.reduceAdd, ↓reduceIte]
        refine callW_of (Asked_ok ..) ?_
        rintro r H1 ⟨rfl, rfl⟩
        cases hn : namedP k
        · simp (disch := omega) only [go_sem, Nat.reduceEqDiff, Nat.reduceAdd, ↓reduceIte]
          refine callW_of (Asked_ok ..) ?_
          rintro r H1 ⟨rfl, rfl⟩
          simp (disch := omega) only [go_sem, Nat.reduceEqDiff, Nat.reduceAdd, ↓reduceIte, hn]
          refine Split.mk (fun h3 => ?_) (fun h3 => ?_)
          · simp (disch := omega) only [go_sem, Nat.reduceEqDiff, Nat.reduceAdd, ↓reduceIte]
            refine ⟨?_, trivial⟩
            have : d ≠ [] := by rintro rfl; simp at h3
            simp [formP, hn, this]
          · have e5 : d = [] := List.eq_nil_of_length_eq_zero (by omega)
            subst e5
            repeat' (first | refine Split.mk (fun _ => ?_) (fun _ => ?_) | refine SplitG.mk (fun _ => ?_) (fun _ => ?_) | (refine callW_of (Between_ok ..) ?_; rintro r H1 ⟨rfl, rfl⟩) | simp (disch := omega) only [go_sem, Nat.reduceEqDiff, ↓reduceIte])
            all_goals (refine ⟨?_, trivial⟩; simp only [formP, e1, e2, e3, e4, hn, Bool.true_and])
            all_goals (congr 1; rw [Bool.eq_iff_iff]; simp [numberP]; try (repeat (split; try omega)); try omega)
        · simp (disch := omega) only [go_sem, Nat.reduceEqDiff, Nat.reduceAdd, ↓reduceIte]
          refine callW_of (RefDims_ok _ _ _ hd) ?_
          rintro r H1 ⟨rfl, rfl⟩
          simp (disch := omega) only [go_sem, Nat.reduceEqDiff, Nat.reduceAdd, ↓reduceIte]
          refine SplitG.mk (fun h3 => ?_) (fun h3 => ?_)
          · simp (disch := omega) only [go_sem, Nat.reduceEqDiff, Nat.reduceAdd, ↓reduceIte]
            refine callW_of (Asked_ok ..) ?_
            rintro r H1 ⟨rfl, rfl⟩
            simp (disch := omega) only [go_sem, Nat.reduceEqDiff, Nat.reduceAdd, ↓reduceIte, hn]
            have h3' : mayP d = true := by simpa using h3
            repeat' (first | refine Split.mk (fun _ => ?_) (fun _ => ?_) | refine SplitG.mk (fun _ => ?_) (fun _ => ?_) | (refine callW_of (Between_ok ..) ?_; rintro r H1 ⟨rfl, rfl⟩) | simp (disch := omega) only [go_sem, Nat.reduceEqDiff, ↓reduceIte])
            all_goals (refine ⟨?_, trivial⟩; simp only [formP, e1, e2, e3, e4, hn, h3', Bool.true_and, if_true, Bool.and_true])
            all_goals (congr 1; rw [Bool.eq_iff_iff]; simp [numberP]; try (repeat (split; try omega)); try omega)
          · simp (disch := omega) only [go_sem, Nat.reduceEqDiff, Nat.reduceAdd, ↓reduceIte]
            refine ⟨?_, trivial⟩
            have h3' : mayP d = false := by simpa using h3
            simp [formP, hn, h3']
  · simp (disch := omega) only [go_sem, Nat.reduceEqDiff, Nat.reduceAdd, ↓reduceIte, if_neg hk]
    refine ⟨?_, trivial⟩
    have : (decide (1 ≤ k) && decide (k ≤ 17)) = false := by simp; omega
    simp [formP, this]

theorem OwnI.set {H0 H : AH} {b n c : Nat} {l : List Int} (h : OwnI H0 H (.slice (some ⟨b, 0, none⟩) n c) l) (z x : Int) (hz : 0 ≤ z ∧ z < l.length) : astore tb 3 (elp (some ⟨b, 0, none⟩) c z 0) (.int .i64 x) H = some (H.put b (some ((l.set z.toNat x).map (.int .i64)))) ∧ OwnI H0 (H.put b (some ((l.set z.toNat x).map (.int .i64)))) (.slice (some ⟨b, 0, none⟩) n c) (l.set z.toNat x) ∧ b < H.size ∧ H0.size ≤ b := by
  unfold OwnI at h
  generalize hN : l.length = N at h
  generalize hX : l.map (Value.int .i64) = X at h
  cases h with
  | mk _ _ _ hb hro hr hg hl hn =>
    subst hN hX
    have hs := AH.lt_of_get hg
    refine ⟨?_, ?_, hs, hb⟩
    · rw [astore_own ty3 rfl rfl rfl (by omega) hg z (by simpa using hz)]
      rw [List.map_set]
    · unfold OwnI
      rw [List.length_set]
      refine .mk b _ _ hb hro hr ?_ (by simp) hn
      rw [AH.get_put _ _ _ _ hs, if_pos rfl]
theorem OwnI.block {H0 H : AH} {v : Value} {l : List Int} (h : OwnI H0 H v l) (hl : l ≠ []) : ∃ b, v = .slice (some ⟨b, 0, none⟩) l.length 1 := by
  unfold OwnI at h
  generalize hN : l.length = N at h
  generalize hX : l.map (Value.int .i64) = X at h
  cases h with
  | nil => exact absurd (List.eq_nil_of_length_eq_zero hN) hl
  | mk b _ _ => exact ⟨b, rfl⟩

/-- Dims whose last one is so many times less. -/
theorem Less_ok (H : AH) (h0 : H.ro ≤ H.size) (d : List Int) (n : Int) (v : Value) (h : Ints H v d) (hm : mayP d = true) (hn : 1 ≤ n ∧ n ≤ 8) :
    Runs tb 81 [v, .int .i64 n] H (fun r H' => ∃ u, r = .tuple #[u, .bool (lessOk d n)] ∧ (lessOk d n = true → OwnI H H' u (lessP d n)) ∧ (lessOk d n = false → u = .slice none 0 0) ∧ Ext H H') := by
  obtain ⟨m1, m2, m3, _⟩ := mayP_spec hm
  have hlast := mayP_gi hm ((d.length : Int) - 1) (by omega)
  refine Runs_fn (fn := Try.f81) [.tmp 4, .tmp 5] [0, 1, 4, 5, 6] [] 3000 (by kernel_rfl) rfl (by kernel_rfl) (by kernel_rfl) rfl ?_; simp only [pad, argAt]
  simp (disch := omega) only [go_sem, Nat.reduceEqDiff, Nat.reduceAdd, ↓reduceIte]
  refine callW_of (Clone_ok H h0 d v h (by omega)) ?_
  rintro r H1 ⟨ho, hE⟩
  obtain ⟨b, rfl⟩ := ho.block (by rintro rfl; simp at m1)
  have hi := ho.ints
  simp (disch := omega) only [go_sem, Nat.reduceEqDiff, Nat.reduceAdd, ↓reduceIte, ixI hi, ldI hi]
  have hrem : (gi d ((d.length : Int) - 1)).tmod n = lastI d % n := by rw [Int.tmod_eq_emod_of_nonneg (by omega)]; rfl
  have hquo : IntKind.i64.wrap ((gi d ((d.length : Int) - 1)).tdiv n) = lastI d / n := IntWalk.i64_quo _ _ ⟨by omega, by omega, by omega⟩
  obtain ⟨hst, ho2, hb1, hb2⟩ := ho.set ((d.length : Int) - 1) (lastI d / n) (by omega)
  refine ⟨by omega, ?_⟩
  simp (disch := omega) only [go_sem, Nat.reduceEqDiff, Nat.reduceAdd, ↓reduceIte, hrem]
  refine Split.mk (fun h1 => ?_) (fun h1 => ?_)
  · simp (disch := omega) only [go_sem, Nat.reduceEqDiff, Nat.reduceAdd, ↓reduceIte]
    have e : lessOk d n = false := by simpa [lessOk] using h1
    rw [e]
    exact ⟨.slice none 0 0, rfl, (fun h => by cases h), fun _ => rfl, hE⟩
  · have e : lessOk d n = true := by simpa [lessOk] using h1
    simp (disch := omega) only [go_sem, Nat.reduceEqDiff, Nat.reduceAdd, ↓reduceIte, ixI hi, ldI hi, hquo, hst]
    refine ⟨by omega, ?_⟩
    rw [e]
    have hz : ((d.length : Int) - 1).toNat = d.length - 1 := by omega
    rw [hz] at ho2 ⊢
    exact ⟨_, rfl, fun _ => ho2, (fun h => by cases h), hE.put hb2 hb1 _⟩

theorem RefLess_ok (H : AH) (h0 : H.ro ≤ H.size) (d : List Int) (n : Int) (v : Value) (h : Ints H v d) (hm : mayP d = true) (hn : 1 ≤ n ∧ n ≤ 8) :
    Runs tb 87 [v, .int .i64 n] H (fun r H' => OwnI H H' r (lessP d n) ∧ Ext H H') := by
  obtain ⟨m1, m2, m3, _⟩ := mayP_spec hm
  have hlast := mayP_gi hm ((d.length : Int) - 1) (by omega)
  refine Runs_fn (fn := Try.f87) [.tmp 4] [0, 1, 4, 5] [] 3000 (by kernel_rfl) rfl (by kernel_rfl) (by kernel_rfl) rfl ?_; simp only [pad, argAt]
  simp (disch := omega) only [go_sem, Nat.reduceEqDiff, Nat.reduceAdd, ↓reduceIte]
  refine callW_of (CopyNumbers_ok H h0 d v h (by omega)) ?_
  rintro r H1 ⟨ho, hE⟩
  obtain ⟨b, rfl⟩ := ho.block (by rintro rfl; simp at m1)
  have hi := ho.ints
  have hquo : IntKind.i64.wrap ((gi d ((d.length : Int) - 1)).tdiv n) = lastI d / n := IntWalk.i64_quo _ _ ⟨by omega, by omega, by omega⟩
  obtain ⟨hst, ho2, hb1, hb2⟩ := ho.set ((d.length : Int) - 1) (lastI d / n) (by omega)
  simp (disch := omega) only [go_sem, Nat.reduceEqDiff, Nat.reduceAdd, ↓reduceIte, ixI hi, ldI hi, hquo, hst]
  refine ⟨by omega, ?_⟩
  have hz : ((d.length : Int) - 1).toNat = d.length - 1 := by omega
  rw [hz] at ho2 ⊢
  exact ⟨ho2, hE.put hb2 hb1 _⟩

theorem ldII0 {H : AH} {a : Option Addr} {n c : Nat} {l : List (List Int)} (h : Intss H (.slice a n c) l) (hi : 0 < l.length) : ∃ v, aload tb 23 (elp a c 0 0) H.get = some v ∧ Ints H v (l.getD 0 []) := by
  have e : l.getD 0 [] = l[0] := by simp [List.getD_eq_getElem?_getD, hi]
  rw [e]; exact ldII h 0 hi
theorem ldII1 {H : AH} {a : Option Addr} {n c : Nat} {l : List (List Int)} (h : Intss H (.slice a n c) l) (hi : 1 < l.length) : ∃ v, aload tb 23 (elp a c 1 0) H.get = some v ∧ Ints H v (l.getD 1 []) := by
  have e : l.getD 1 [] = l[1] := by simp [List.getD_eq_getElem?_getD, hi]
  rw [e]; exact ldII h 1 hi
theorem may_at {l : List (List Int)} (h : ∀ x ∈ l, mayP x = true) {i : Nat} (hi : i < l.length) : mayP (l.getD i []) = true := by
  rw [List.getD_eq_getElem?_getD, List.getElem?_eq_getElem hi]; exact h _ (List.getElem_mem _)

/-- The dims of what is of its form. -/
theorem dims_ok (H : AH) (h0 : H.ro ≤ H.size) (k n : Int) (d : List Int) (l : List (List Int)) (vd vl : Value) (hd : Ints H vd d) (hl : Intss H vl l) (hf : formP k n d l = true) :
    Runs tb 40 [.int .i64 k, .int .i64 n, vd, vl] H (fun r H' => Ext H H' ∧ match dimsP k n d l with | none => r = .slice none 0 0 | some x => OwnI H H' r x) := by
  obtain ⟨hk, hll, hlm, hnum, hnd⟩ := formP_spec hf
  have bd := hl.bd
  obtain ⟨pl, cl, rfl⟩ := hl.inv
  have hk' : k = 1 ∨ k = 2 ∨ k = 3 ∨ k = 4 ∨ k = 5 ∨ k = 6 ∨ k = 7 ∨ k = 8 ∨ k = 9 ∨ k = 10 ∨ k = 11 ∨ k = 12 ∨ k = 13 ∨ k = 14 ∨ k = 15 ∨ k = 16 ∨ k = 17 := by omega
  have hk' : k = 1 ∨ k = 2 ∨ k = 3 ∨ k = 4 ∨ k = 5 ∨ k = 6 ∨ k = 7 ∨ k = 8 ∨ k = 9 ∨ k = 10 ∨ k = 11 ∨ k = 12 ∨ k = 13 ∨ k = 14 ∨ k = 15 ∨ k = 16 ∨ k = 17 := by omega
  refine Runs_fn (fn := Try.f40) [.tmp 8] [0, 1, 2, 3, 8, 9, 10, 14, 18] [(22, [(4, 1)]), (11, [(2, 9)])] 3000 (by kernel_rfl) rfl (by kernel_rfl) (by kernel_rfl) rfl ?_; simp only [pad, argAt]
  rcases hk' with rfl | rfl | rfl | rfl | rfl | rfl | rfl | rfl | rfl | rfl | rfl | rfl | rfl | rfl | rfl | rfl | rfl
  iterate 3
    · have hm : mayP d = true := by simpa [namedP] using hnd
      have hb := (mayP_spec hm).2.1
      simp (disch := omega) only [go_sem, Nat.reduceEqDiff, Nat.reduceAdd, ↓reduceIte, Int.reduceEq, decide_true, decide_false]
      refine callW_of (Clone_ok H h0 d vd hd (by omega)) ?_
      rintro r H1 ⟨ho, hE⟩
      simp (disch := omega) only [go_sem, Nat.reduceEqDiff, Nat.reduceAdd, ↓reduceIte]
      exact ⟨hE, ho⟩
  · -- kind 4
    · have hlen : l.length = 2 := by simp [manyP] at hll; omega
      obtain ⟨u0, hu0, hi0⟩ := ldII0 hl (by omega)
      obtain ⟨u1, hu1, hi1⟩ := ldII1 hl (by omega)
      have hm0 := may_at hlm (i := 0) (by omega)
      have hm1 := may_at hlm (i := 1) (by omega)
      obtain ⟨p0, c0, rfl⟩ := hi0.inv
      obtain ⟨p1, c1, rfl⟩ := hi1.inv
      have hdp : dimsP 4 n d l = if l.getD 0 [] = l.getD 1 [] then some (l.getD 0 []) else none := rfl
      rw [hdp]
      clear hdp
      generalize l.getD 0 [] = A at *
      generalize l.getD 1 [] = B at *
      have hb := (mayP_spec hm0).2.1
      simp (disch := omega) only [go_sem, Nat.reduceEqDiff, Nat.reduceAdd, ↓reduceIte, Int.reduceEq, decide_true, decide_false, ixII hl, hu0, hu1]
      refine ⟨⟨Same.of hu0 hu0 hi0.seq, trivial⟩, ?_⟩
      refine callW_of (Equal_ok H _ _ _ _ hi0 hi1) ?_
      rintro r H1 ⟨rfl, rfl⟩
      simp (disch := omega) only [go_sem, Nat.reduceEqDiff, Nat.reduceAdd, ↓reduceIte]
      refine ⟨⟨Same.of hu0 hu0 hi0.seq, trivial⟩, ?_⟩
      refine Split.mk (fun h => ?_) (fun h => ?_)
      · simp (disch := omega) only [go_sem, Nat.reduceEqDiff, Nat.reduceAdd, ↓reduceIte]
        rw [if_neg (by simpa using h)]
        exact ⟨Ext.refl _, trivial⟩
      · simp (disch := omega) only [go_sem, Nat.reduceEqDiff, Nat.reduceAdd, ↓reduceIte]
        refine callW_of (Clone_ok H1 h0 A _ hi0 (by omega)) ?_
        rintro r H2 ⟨ho, hE⟩
        simp (disch := omega) only [go_sem, Nat.reduceEqDiff, Nat.reduceAdd, ↓reduceIte]
        rw [if_pos (by simpa using h)]
        exact ⟨hE, ho⟩
  · -- kind 5
    · have hlen : l.length = 2 := by simp [manyP] at hll; omega
      obtain ⟨u0, hu0, hi0⟩ := ldII0 hl (by omega)
      obtain ⟨u1, hu1, hi1⟩ := ldII1 hl (by omega)
      have hm0 := may_at hlm (i := 0) (by omega)
      have hm1 := may_at hlm (i := 1) (by omega)
      obtain ⟨p0, c0, rfl⟩ := hi0.inv
      obtain ⟨p1, c1, rfl⟩ := hi1.inv
      have hdp : dimsP 5 n d l = if l.getD 0 [] = l.getD 1 [] then some (l.getD 0 []) else none := rfl
      rw [hdp]
      clear hdp
      generalize l.getD 0 [] = A at *
      generalize l.getD 1 [] = B at *
      have hb := (mayP_spec hm0).2.1
      simp (disch := omega) only [go_sem, Nat.reduceEqDiff, Nat.reduceAdd, ↓reduceIte, Int.reduceEq, decide_true, decide_false, ixII hl, hu0, hu1]
      refine ⟨⟨Same.of hu0 hu0 hi0.seq, trivial⟩, ?_⟩
      refine callW_of (Equal_ok H _ _ _ _ hi0 hi1) ?_
      rintro r H1 ⟨rfl, rfl⟩
      simp (disch := omega) only [go_sem, Nat.reduceEqDiff, Nat.reduceAdd, ↓reduceIte]
      refine ⟨⟨Same.of hu0 hu0 hi0.seq, trivial⟩, ?_⟩
      refine Split.mk (fun h => ?_) (fun h => ?_)
      · simp (disch := omega) only [go_sem, Nat.reduceEqDiff, Nat.reduceAdd, ↓reduceIte]
        rw [if_neg (by simpa using h)]
        exact ⟨Ext.refl _, trivial⟩
      · simp (disch := omega) only [go_sem, Nat.reduceEqDiff, Nat.reduceAdd, ↓reduceIte]
        refine callW_of (Clone_ok H1 h0 A _ hi0 (by omega)) ?_
        rintro r H2 ⟨ho, hE⟩
        simp (disch := omega) only [go_sem, Nat.reduceEqDiff, Nat.reduceAdd, ↓reduceIte]
        rw [if_pos (by simpa using h)]
        exact ⟨hE, ho⟩
  · -- kind 6
    · have hlen : l.length = 2 := by simp [manyP] at hll; omega
      obtain ⟨u0, hu0, hi0⟩ := ldII0 hl (by omega)
      obtain ⟨u1, hu1, hi1⟩ := ldII1 hl (by omega)
      have hm0 := may_at hlm (i := 0) (by omega)
      have hm1 := may_at hlm (i := 1) (by omega)
      obtain ⟨p0, c0, rfl⟩ := hi0.inv
      obtain ⟨p1, c1, rfl⟩ := hi1.inv
      have hdp : dimsP 6 n d l = if l.getD 0 [] = l.getD 1 [] then some (l.getD 0 []) else none := rfl
      rw [hdp]
      clear hdp
      generalize l.getD 0 [] = A at *
      generalize l.getD 1 [] = B at *
      have hb := (mayP_spec hm0).2.1
      simp (disch := omega) only [go_sem, Nat.reduceEqDiff, Nat.reduceAdd, ↓reduceIte, Int.reduceEq, decide_true, decide_false, ixII hl, hu0, hu1]
      refine ⟨⟨Same.of hu0 hu0 hi0.seq, trivial⟩, ?_⟩
      refine callW_of (Equal_ok H _ _ _ _ hi0 hi1) ?_
      rintro r H1 ⟨rfl, rfl⟩
      simp (disch := omega) only [go_sem, Nat.reduceEqDiff, Nat.reduceAdd, ↓reduceIte]
      refine ⟨⟨Same.of hu0 hu0 hi0.seq, trivial⟩, ?_⟩
      refine Split.mk (fun h => ?_) (fun h => ?_)
      · simp (disch := omega) only [go_sem, Nat.reduceEqDiff, Nat.reduceAdd, ↓reduceIte]
        rw [if_neg (by simpa using h)]
        exact ⟨Ext.refl _, trivial⟩
      · simp (disch := omega) only [go_sem, Nat.reduceEqDiff, Nat.reduceAdd, ↓reduceIte]
        refine callW_of (Clone_ok H1 h0 A _ hi0 (by omega)) ?_
        rintro r H2 ⟨ho, hE⟩
        simp (disch := omega) only [go_sem, Nat.reduceEqDiff, Nat.reduceAdd, ↓reduceIte]
        rw [if_pos (by simpa using h)]
        exact ⟨hE, ho⟩
  · -- kind 7
    · have hlen : l.length = 1 := by simp [manyP] at hll; omega
      obtain ⟨u0, hu0, hi0⟩ := ldII0 hl (by omega)
      have hm0 := may_at hlm (i := 0) (by omega)
      obtain ⟨p0, c0, rfl⟩ := hi0.inv
      have hdp : dimsP 7 n d l = some (l.getD 0 []) := rfl
      rw [hdp]
      clear hdp
      generalize l.getD 0 [] = A at *
      have hb := (mayP_spec hm0).2.1
      simp (disch := omega) only [go_sem, Nat.reduceEqDiff, Nat.reduceAdd, ↓reduceIte, Int.reduceEq, decide_true, decide_false, ixII hl, hu0]
      refine callW_of (Clone_ok H h0 A _ hi0 (by omega)) ?_
      rintro r H2 ⟨ho, hE⟩
      simp (disch := omega) only [go_sem, Nat.reduceEqDiff, Nat.reduceAdd, ↓reduceIte]
      exact ⟨hE, ho⟩
  · -- kind 8
    · have hlen : l.length = 1 := by simp [manyP] at hll; omega
      obtain ⟨u0, hu0, hi0⟩ := ldII0 hl (by omega)
      have hm0 := may_at hlm (i := 0) (by omega)
      obtain ⟨p0, c0, rfl⟩ := hi0.inv
      have hdp : dimsP 8 n d l = some (l.getD 0 []) := rfl
      rw [hdp]
      clear hdp
      generalize l.getD 0 [] = A at *
      have hb := (mayP_spec hm0).2.1
      simp (disch := omega) only [go_sem, Nat.reduceEqDiff, Nat.reduceAdd, ↓reduceIte, Int.reduceEq, decide_true, decide_false, ixII hl, hu0]
      refine callW_of (Clone_ok H h0 A _ hi0 (by omega)) ?_
      rintro r H2 ⟨ho, hE⟩
      simp (disch := omega) only [go_sem, Nat.reduceEqDiff, Nat.reduceAdd, ↓reduceIte]
      exact ⟨hE, ho⟩
  · -- kind 9
    · have hlen : l.length = 2 := by simp [manyP] at hll; omega
      obtain ⟨u0, hu0, hi0⟩ := ldII0 hl (by omega)
      obtain ⟨u1, hu1, hi1⟩ := ldII1 hl (by omega)
      have hm0 := may_at hlm (i := 0) (by omega)
      have hm1 := may_at hlm (i := 1) (by omega)
      obtain ⟨p0, c0, rfl⟩ := hi0.inv
      obtain ⟨p1, c1, rfl⟩ := hi1.inv
      have hdp : dimsP 9 n d l = if (l.getD 0 []).length = 2 ∧ (l.getD 1 []).length = 2 ∧ gi (l.getD 0 []) 1 = gi (l.getD 1 []) 0 then some [gi (l.getD 0 []) 0, gi (l.getD 1 []) 1] else none := rfl
      rw [hdp]
      clear hdp
      generalize l.getD 0 [] = A at *
      generalize l.getD 1 [] = B at *
      simp (disch := omega) only [go_sem, Nat.reduceEqDiff, Nat.reduceAdd, ↓reduceIte, Int.reduceEq, decide_true, decide_false, ixII hl, hu0, hu1]
      refine SplitG.mk (fun h1 => ?_) (fun h1 => ?_)
      · simp (disch := omega) only [go_sem, Nat.reduceEqDiff, Nat.reduceAdd, ↓reduceIte, ixII hl, hu0, hu1]
        refine SplitG.mk (fun h2 => ?_) (fun h2 => ?_)
        · simp (disch := omega) only [go_sem, Nat.reduceEqDiff, Nat.reduceAdd, ↓reduceIte, ixII hl, hu0, hu1, ixI hi0, ldI hi0, ixI hi1, ldI hi1]
          refine Split.mk (fun h3 => ?_) (fun h3 => ?_)
          · obtain ⟨hE, hn2⟩ : Ext H (H.push [.int .i64 (gi A 0), .int .i64 (gi B 1)]) ∧ OwnI H (H.push [.int .i64 (gi A 0), .int .i64 (gi B 1)]) (.slice (some ⟨H.size, 0, none⟩) 2 1) [gi A 0, gi B 1] :=
              ⟨Ext.push _ _, Own.mk H.size 2 _ (Nat.le_refl _) h0 rfl (by rw [AH.get_push, if_pos rfl]; rfl) rfl (by omega)⟩
            simp (disch := omega) only [go_sem, Nat.reduceEqDiff, Nat.reduceAdd, ↓reduceIte, ixII hl, hu0, hu1, ixI hi0, ldI hi0, ixI hi1, ldI hi1, bslice_2 stI _ _ (cells_int (k := .i64) (i := gi A 0)) (cells_int (k := .i64) (i := gi B 1))]
            refine callW_of (May_ok _ _ _ hn2.ints) ?_
            rintro r H2 ⟨rfl, rfl⟩
            have hmm : mayP [gi A 0, gi B 1] = true := by
              have a0 := mayP_gi hm0 0 (by omega)
              have b1 := mayP_gi hm1 1 (by omega)
              have hp : prodL [gi A 0, gi B 1] ≤ 64 := by
                have e1 : w64 (1 * gi A 0) = gi A 0 := by rw [w64, IntWalk.i64_in _ (by omega)]; omega
                have hmul : gi A 0 * gi B 1 ≤ 8 * 8 := Int.mul_le_mul a0.2 b1.2 (by omega) (by omega)
                have hmul0 : 0 ≤ gi A 0 * gi B 1 := Int.mul_nonneg (by omega) (by omega)
                have e2 : w64 (gi A 0 * gi B 1) = gi A 0 * gi B 1 := IntWalk.i64_in _ (by omega)
                simp only [prodL, List.foldl_cons, List.foldl_nil, e1, e2]
                omega
              simp [mayP, okDim, a0, b1, hp]
            simp (disch := omega) only [go_sem, Nat.reduceEqDiff, Nat.reduceAdd, ↓reduceIte, hmm]
            refine callW_of (Clone_ok _ (by exact Nat.le_trans h0 (Nat.le_succ _)) _ _ hn2.ints (by simp)) ?_
            rintro r H2 ⟨ho, hE2⟩
            simp (disch := omega) only [go_sem, Nat.reduceEqDiff, Nat.reduceAdd, ↓reduceIte]
            rw [if_pos ⟨by omega, by omega, h3⟩]
            exact ⟨hE.trans hE2, OwnI.weak ho (Nat.le_succ _) rfl h0⟩
          · simp (disch := omega) only [go_sem, Nat.reduceEqDiff, Nat.reduceAdd, ↓reduceIte]
            rw [if_neg (by rintro ⟨_, _, h⟩; exact h3 h)]
            exact ⟨Ext.refl _, trivial⟩
        · simp (disch := omega) only [go_sem, Nat.reduceEqDiff, Nat.reduceAdd, ↓reduceIte]
          rw [if_neg (by rintro ⟨_, h, _⟩; omega)]
          exact ⟨Ext.refl _, trivial⟩
      · simp (disch := omega) only [go_sem, Nat.reduceEqDiff, Nat.reduceAdd, ↓reduceIte]
        rw [if_neg (by rintro ⟨h, _, _⟩; omega)]
        exact ⟨Ext.refl _, trivial⟩
  · -- kind 10
    · have hlen : l.length = 1 := by simp [manyP] at hll; omega
      obtain ⟨u0, hu0, hi0⟩ := ldII0 hl (by omega)
      have hm0 := may_at hlm (i := 0) (by omega)
      obtain ⟨p0, c0, rfl⟩ := hi0.inv
      have hdp : dimsP 10 n d l = if (l.getD 0 []).length = 2 then some [gi (l.getD 0 []) 1, gi (l.getD 0 []) 0] else none := rfl
      rw [hdp]
      clear hdp
      generalize l.getD 0 [] = A at *
      simp (disch := omega) only [go_sem, Nat.reduceEqDiff, Nat.reduceAdd, ↓reduceIte, Int.reduceEq, decide_true, decide_false, ixII hl, hu0]
      refine Split.mk (fun h => ?_) (fun h => ?_)
      · obtain ⟨hE, hn2⟩ : Ext H (H.push [.int .i64 (gi A 1), .int .i64 (gi A 0)]) ∧ OwnI H (H.push [.int .i64 (gi A 1), .int .i64 (gi A 0)]) (.slice (some ⟨H.size, 0, none⟩) 2 1) [gi A 1, gi A 0] :=
          ⟨Ext.push _ _, Own.mk H.size 2 _ (Nat.le_refl _) h0 rfl (by rw [AH.get_push, if_pos rfl]; rfl) rfl (by omega)⟩
        simp (disch := omega) only [go_sem, Nat.reduceEqDiff, Nat.reduceAdd, ↓reduceIte, ixII hl, hu0, ixI hi0, ldI hi0, bslice_2 stI _ _ (cells_int (k := .i64) (i := gi A 1)) (cells_int (k := .i64) (i := gi A 0))]
        refine callW_of (Clone_ok _ (by exact Nat.le_trans h0 (Nat.le_succ _)) _ _ hn2.ints (by simp)) ?_
        rintro r H2 ⟨ho, hE2⟩
        simp (disch := omega) only [go_sem, Nat.reduceEqDiff, Nat.reduceAdd, ↓reduceIte]
        rw [if_pos (by omega)]
        exact ⟨hE.trans hE2, OwnI.weak ho (Nat.le_succ _) rfl h0⟩
      · simp (disch := omega) only [go_sem, Nat.reduceEqDiff, Nat.reduceAdd, ↓reduceIte]
        rw [if_neg (by omega)]
        exact ⟨Ext.refl _, trivial⟩
  · -- kind 11
    · have hlen : l.length = 1 := by simp [manyP] at hll; omega
      obtain ⟨u0, hu0, hi0⟩ := ldII0 hl (by omega)
      have hm0 := may_at hlm (i := 0) (by omega)
      obtain ⟨p0, c0, rfl⟩ := hi0.inv
      have hm : mayP d = true := by simpa [namedP] using hnd
      have hb := (mayP_spec hm).2.1
      have hdp : dimsP 11 n d l = if prodL d = prodL (l.getD 0 []) then some d else none := rfl
      rw [hdp]
      clear hdp
      generalize l.getD 0 [] = A at *
      simp (disch := omega) only [go_sem, Nat.reduceEqDiff, Nat.reduceAdd, ↓reduceIte, Int.reduceEq, decide_true, decide_false, ixII hl, hu0]
      refine callW_of (Product_ok _ _ _ hd) ?_
      rintro r H1 ⟨rfl, rfl⟩
      simp (disch := omega) only [go_sem, Nat.reduceEqDiff, Nat.reduceAdd, ↓reduceIte, ixII hl, hu0]
      refine ⟨⟨⟨Same.of hu0 hu0 hi0.seq, Same.of hu0 hu0 hi0.seq⟩, trivial⟩, ?_⟩
      refine callW_of (Product_ok _ _ _ hi0) ?_
      rintro r H1 ⟨rfl, rfl⟩
      simp (disch := omega) only [go_sem, Nat.reduceEqDiff, Nat.reduceAdd, ↓reduceIte]
      refine Split.mk (fun h => ?_) (fun h => ?_)
      · simp (disch := omega) only [go_sem, Nat.reduceEqDiff, Nat.reduceAdd, ↓reduceIte]
        rw [if_neg (by simpa using h)]
        exact ⟨Ext.refl _, trivial⟩
      · simp (disch := omega) only [go_sem, Nat.reduceEqDiff, Nat.reduceAdd, ↓reduceIte]
        refine callW_of (Clone_ok H1 h0 d vd hd (by omega)) ?_
        rintro r H2 ⟨ho, hE⟩
        simp (disch := omega) only [go_sem, Nat.reduceEqDiff, Nat.reduceAdd, ↓reduceIte]
        rw [if_pos (by simpa using h)]
        exact ⟨hE, ho⟩
  · -- kind 12
    · have hlen : l.length = 1 := by simp [manyP] at hll; omega
      obtain ⟨u0, hu0, hi0⟩ := ldII0 hl (by omega)
      have hm0 := may_at hlm (i := 0) (by omega)
      obtain ⟨p0, c0, rfl⟩ := hi0.inv
      have hm : mayP d = true := by simpa [namedP] using hnd
      have hb := (mayP_spec hm).2.1
      have hdp : dimsP 12 n d l = if growsP (l.getD 0 []) d then some d else none := rfl
      rw [hdp]
      clear hdp
      generalize l.getD 0 [] = A at *
      simp (disch := omega) only [go_sem, Nat.reduceEqDiff, Nat.reduceAdd, ↓reduceIte, Int.reduceEq, decide_true, decide_false, ixII hl, hu0]
      refine callW_of (Grows_ok _ _ _ _ _ hi0 hd) ?_
      rintro r H1 ⟨rfl, rfl⟩
      simp (disch := omega) only [go_sem, Nat.reduceEqDiff, Nat.reduceAdd, ↓reduceIte]
      refine Split.mk (fun h => ?_) (fun h => ?_)
      · simp (disch := omega) only [go_sem, Nat.reduceEqDiff, Nat.reduceAdd, ↓reduceIte]
        rw [if_neg (by simp [h])]
        exact ⟨Ext.refl _, trivial⟩
      · simp (disch := omega) only [go_sem, Nat.reduceEqDiff, Nat.reduceAdd, ↓reduceIte]
        refine callW_of (Clone_ok H1 h0 d vd hd (by omega)) ?_
        rintro r H2 ⟨ho, hE⟩
        simp (disch := omega) only [go_sem, Nat.reduceEqDiff, Nat.reduceAdd, ↓reduceIte]
        rw [if_pos (by simpa using h)]
        exact ⟨hE, ho⟩
  · -- kind 13
    · have hlen : l.length = 1 := by simp [manyP] at hll; omega
      obtain ⟨u0, hu0, hi0⟩ := ldII0 hl (by omega)
      have hm0 := may_at hlm (i := 0) (by omega)
      obtain ⟨p0, c0, rfl⟩ := hi0.inv
      have hm : mayP d = true := by simpa [namedP] using hnd
      have hb := (mayP_spec hm).2.1
      have hdp : dimsP 13 n d l = if growsP d (l.getD 0 []) then some d else none := rfl
      rw [hdp]
      clear hdp
      generalize l.getD 0 [] = A at *
      simp (disch := omega) only [go_sem, Nat.reduceEqDiff, Nat.reduceAdd, ↓reduceIte, Int.reduceEq, decide_true, decide_false, ixII hl, hu0]
      refine callW_of (Grows_ok _ _ _ _ _ hd hi0) ?_
      rintro r H1 ⟨rfl, rfl⟩
      simp (disch := omega) only [go_sem, Nat.reduceEqDiff, Nat.reduceAdd, ↓reduceIte]
      refine Split.mk (fun h => ?_) (fun h => ?_)
      · simp (disch := omega) only [go_sem, Nat.reduceEqDiff, Nat.reduceAdd, ↓reduceIte]
        rw [if_neg (by simp [h])]
        exact ⟨Ext.refl _, trivial⟩
      · simp (disch := omega) only [go_sem, Nat.reduceEqDiff, Nat.reduceAdd, ↓reduceIte]
        refine callW_of (Clone_ok H1 h0 d vd hd (by omega)) ?_
        rintro r H2 ⟨ho, hE⟩
        simp (disch := omega) only [go_sem, Nat.reduceEqDiff, Nat.reduceAdd, ↓reduceIte]
        rw [if_pos (by simpa using h)]
        exact ⟨hE, ho⟩
  · -- kind 14
    · have hlen : l.length = 1 := by simp [manyP] at hll; omega
      obtain ⟨u0, hu0, hi0⟩ := ldII0 hl (by omega)
      have hm0 := may_at hlm (i := 0) (by omega)
      obtain ⟨p0, c0, rfl⟩ := hi0.inv
      have hdp : dimsP 14 n d l = some (l.getD 0 []) := rfl
      rw [hdp]
      clear hdp
      generalize l.getD 0 [] = A at *
      have hb := (mayP_spec hm0).2.1
      simp (disch := omega) only [go_sem, Nat.reduceEqDiff, Nat.reduceAdd, ↓reduceIte, Int.reduceEq, decide_true, decide_false, ixII hl, hu0]
      refine callW_of (Clone_ok H h0 A _ hi0 (by omega)) ?_
      rintro r H2 ⟨ho, hE⟩
      simp (disch := omega) only [go_sem, Nat.reduceEqDiff, Nat.reduceAdd, ↓reduceIte]
      exact ⟨hE, ho⟩
  · -- kind 15
    · have hlen : l.length = 1 := by simp [manyP] at hll; omega
      obtain ⟨u0, hu0, hi0⟩ := ldII0 hl (by omega)
      have hm0 := may_at hlm (i := 0) (by omega)
      obtain ⟨p0, c0, rfl⟩ := hi0.inv
      have hnn : 1 ≤ n ∧ n ≤ 8 := by simpa [numberP] using hnum
      have hdp : dimsP 15 n d l = if lessOk (l.getD 0 []) n then some (lessP (l.getD 0 []) n) else none := rfl
      rw [hdp]
      clear hdp
      generalize l.getD 0 [] = A at *
      simp (disch := omega) only [go_sem, Nat.reduceEqDiff, Nat.reduceAdd, ↓reduceIte, Int.reduceEq, decide_true, decide_false, ixII hl, hu0]
      refine callW_of (Less_ok H h0 A n _ hi0 hm0 hnn) ?_
      rintro r H2 ⟨u, rfl, ho, hno, hE⟩
      simp (disch := omega) only [go_sem, Nat.reduceEqDiff, Nat.reduceAdd, ↓reduceIte]
      refine Split.mk (fun h => ?_) (fun h => ?_)
      · simp (disch := omega) only [go_sem, Nat.reduceEqDiff, Nat.reduceAdd, ↓reduceIte]
        rw [if_neg (by simp [h])]
        exact ⟨hE, trivial⟩
      · have h : lessOk A n = true := by simpa using h
        have ho := ho h
        have hll : (lessP A n).length ≤ 1000000000000 := by have := (mayP_spec hm0).2.1; simp [lessP]; omega
        simp (disch := omega) only [go_sem, Nat.reduceEqDiff, Nat.reduceAdd, ↓reduceIte]
        refine callW_of (Clone_ok H2 (by have := hE.ro; have := hE.size; omega) _ _ ho.ints hll) ?_
        rintro r H3 ⟨ho2, hE2⟩
        simp (disch := omega) only [go_sem, Nat.reduceEqDiff, Nat.reduceAdd, ↓reduceIte]
        rw [if_pos h]
        exact ⟨hE.trans hE2, OwnI.weak ho2 hE.size hE.ro h0⟩
  · -- kind 16
    · have hlen : l.length = 2 := by simp [manyP] at hll; omega
      obtain ⟨u0, hu0, hi0⟩ := ldII0 hl (by omega)
      obtain ⟨u1, hu1, hi1⟩ := ldII1 hl (by omega)
      have hm0 := may_at hlm (i := 0) (by omega)
      have hm1 := may_at hlm (i := 1) (by omega)
      obtain ⟨p0, c0, rfl⟩ := hi0.inv
      obtain ⟨p1, c1, rfl⟩ := hi1.inv
      have hdp : dimsP 16 n d l = if l.getD 0 [] = l.getD 1 [] then some (l.getD 0 []) else none := rfl
      rw [hdp]
      clear hdp
      generalize l.getD 0 [] = A at *
      generalize l.getD 1 [] = B at *
      have hb := (mayP_spec hm0).2.1
      simp (disch := omega) only [go_sem, Nat.reduceEqDiff, Nat.reduceAdd, ↓reduceIte, Int.reduceEq, decide_true, decide_false, ixII hl, hu0, hu1]
      refine ⟨⟨Same.of hu0 hu0 hi0.seq, trivial⟩, ?_⟩
      refine callW_of (Equal_ok H _ _ _ _ hi0 hi1) ?_
      rintro r H1 ⟨rfl, rfl⟩
      simp (disch := omega) only [go_sem, Nat.reduceEqDiff, Nat.reduceAdd, ↓reduceIte]
      refine ⟨⟨Same.of hu0 hu0 hi0.seq, trivial⟩, ?_⟩
      refine Split.mk (fun h => ?_) (fun h => ?_)
      · simp (disch := omega) only [go_sem, Nat.reduceEqDiff, Nat.reduceAdd, ↓reduceIte]
        rw [if_neg (by simpa using h)]
        exact ⟨Ext.refl _, trivial⟩
      · simp (disch := omega) only [go_sem, Nat.reduceEqDiff, Nat.reduceAdd, ↓reduceIte]
        refine callW_of (Clone_ok H1 h0 A _ hi0 (by omega)) ?_
        rintro r H2 ⟨ho, hE⟩
        simp (disch := omega) only [go_sem, Nat.reduceEqDiff, Nat.reduceAdd, ↓reduceIte]
        rw [if_pos (by simpa using h)]
        exact ⟨hE, ho⟩
  · -- kind 17
    · have hlen : l.length = 2 := by simp [manyP] at hll; omega
      obtain ⟨u0, hu0, hi0⟩ := ldII0 hl (by omega)
      obtain ⟨u1, hu1, hi1⟩ := ldII1 hl (by omega)
      have hm0 := may_at hlm (i := 0) (by omega)
      have hm1 := may_at hlm (i := 1) (by omega)
      obtain ⟨p0, c0, rfl⟩ := hi0.inv
      obtain ⟨p1, c1, rfl⟩ := hi1.inv
      have hnn : 1 ≤ n ∧ n ≤ 8 := by simpa [numberP] using hnum
      have hdp : dimsP 17 n d l = if lessOk (l.getD 0 []) n ∧ lessP (l.getD 0 []) n = l.getD 1 [] then some (l.getD 0 []) else none := rfl
      rw [hdp]
      clear hdp
      generalize l.getD 0 [] = A at *
      generalize l.getD 1 [] = B at *
      simp (disch := omega) only [go_sem, Nat.reduceEqDiff, Nat.reduceAdd, ↓reduceIte, Int.reduceEq, decide_true, decide_false, ixII hl, hu0, hu1]
      refine callW_of (Less_ok H h0 A n _ hi0 hm0 hnn) ?_
      rintro r H2 ⟨u, rfl, ho, hno, hE⟩
      have hl2 := Intss.mono hE hl
      have hu02 := aload_ext hE hu0
      have hu12 := aload_ext hE hu1
      have hi02 := Ints.mono hE hi0
      have hi12 := Ints.mono hE hi1
      have h02 : H2.ro ≤ H2.size := by have := hE.ro; have := hE.size; omega
      have hb := (mayP_spec hm0).2.1
      simp (disch := omega) only [go_sem, Nat.reduceEqDiff, Nat.reduceAdd, ↓reduceIte]
      refine SplitG.mk (fun h => ?_) (fun h => ?_)
      · have ho := ho h
        simp (disch := omega) only [go_sem, Nat.reduceEqDiff, Nat.reduceAdd, ↓reduceIte, ixII hl2, hu02, hu12]
        refine callW_of (Equal_ok H2 _ _ _ _ ho.ints hi12) ?_
        rintro r H3 ⟨rfl, rfl⟩
        simp (disch := omega) only [go_sem, Nat.reduceEqDiff, Nat.reduceAdd, ↓reduceIte, ixII hl2, hu02, hu12]
        refine Split.mk (fun h2 => ?_) (fun h2 => ?_)
        · simp (disch := omega) only [go_sem, Nat.reduceEqDiff, Nat.reduceAdd, ↓reduceIte]
          rw [if_neg (by rintro ⟨_, h3⟩; simp [h3] at h2)]
          exact ⟨hE, trivial⟩
        · simp (disch := omega) only [go_sem, Nat.reduceEqDiff, Nat.reduceAdd, ↓reduceIte]
          refine callW_of (Clone_ok H3 h02 A _ hi02 (by omega)) ?_
          rintro r H4 ⟨ho2, hE2⟩
          simp (disch := omega) only [go_sem, Nat.reduceEqDiff, Nat.reduceAdd, ↓reduceIte]
          rw [if_pos ⟨h, by simpa using h2⟩]
          exact ⟨hE.trans hE2, OwnI.weak ho2 hE.size hE.ro h0⟩
      · simp (disch := omega) only [go_sem, Nat.reduceEqDiff, Nat.reduceAdd, ↓reduceIte, ixII hl2, hu02, hu12]
        rw [if_neg (by rintro ⟨h3, _⟩; exact h h3)]
        exact ⟨hE, trivial⟩
end Go.Proofs.K

/- Dims that are told: the program's, the document's. -/
set_option linter.unusedVariables false
set_option maxRecDepth 8000
set_option maxHeartbeats 4000000
set_option linter.unusedSimpArgs false
namespace Go.Proofs.K
open Go Go.Ab

/-- What Dims tells: the dims, the error. -/
def dimsE (k n : Int) (d : List Int) (l : List (List Int)) : List Int × Int :=
  if formP k n d l then (match dimsP k n d l with | none => ([], 4) | some x => (x, 0)) else ([], 1)

theorem Dims_ok (H : AH) (h0 : H.ro ≤ H.size) (k n : Int) (d : List Int) (l : List (List Int)) (vd vl : Value) (hd : Ints H vd d) (hl : Intss H vl l) :
    Runs tb 27 [.int .i64 k, .int .i64 n, vd, vl] H (fun r H' => ∃ u, r = .tuple #[u, .int .i64 (dimsE k n d l).2] ∧ OwnI H H' u (dimsE k n d l).1 ∧ Ext H H') := by
  refine Runs_fn (fn := Try.f27) [.tmp 8, .tmp 9] [0, 1, 2, 3, 8, 9, 10] [] 3000 (by kernel_rfl) rfl (by kernel_rfl) (by kernel_rfl) rfl ?_; simp only [pad, argAt]
  simp (disch := omega) only [go_sem, Nat.reduceEqDiff, Nat.reduceAdd, ↓reduceIte]
  refine callW_of (form_ok _ _ _ _ _ _ _ hd hl) ?_
  rintro r H1 ⟨rfl, rfl⟩
  simp (disch := omega) only [go_sem, Nat.reduceEqDiff, Nat.reduceAdd, ↓reduceIte]
  refine Split.mk (fun h => ?_) (fun h => ?_)
  · simp (disch := omega) only [go_sem, Nat.reduceEqDiff, Nat.reduceAdd, ↓reduceIte]
    simp only [dimsE, h]
    exact ⟨_, rfl, OwnI.nil _ _, Ext.refl _⟩
  · have h : formP k n d l = true := by simpa using h
    simp (disch := omega) only [go_sem, Nat.reduceEqDiff, Nat.reduceAdd, ↓reduceIte]
    refine callW_of (dims_ok _ h0 _ _ _ _ _ _ hd hl h) ?_
    rintro r H2 ⟨hE, hr⟩
    cases hdp : dimsP k n d l with
    | none =>
      rw [hdp] at hr
      simp only at hr
      subst hr
      simp (disch := omega) only [go_sem, Nat.reduceEqDiff, Nat.reduceAdd, ↓reduceIte]
      simp only [dimsE, h, hdp, if_true]
      exact ⟨_, rfl, OwnI.nil _ _, hE⟩
    | some x =>
      rw [hdp] at hr
      simp only at hr
      obtain ⟨m1, _⟩ := mayP_spec (dimsP_may h hdp)
      obtain ⟨b, rfl⟩ := hr.block (by rintro rfl; simp at m1)
      simp (disch := omega) only [go_sem, Nat.reduceEqDiff, Nat.reduceAdd, ↓reduceIte]
      simp only [dimsE, h, hdp, if_true]
      exact ⟨_, rfl, hr, hE⟩
theorem Infer_ok (H : AH) (h0 : H.ro ≤ H.size) (k n : Int) (d : List Int) (l : List (List Int)) (vd vl : Value) (hd : Ints H vd d) (hl : Intss H vl l) (hf : formP k n d l = true) :
    Runs tb 46 [.int .i64 k, .int .i64 n, vd, vl] H (fun r H' => ∃ u x, r = .tuple #[u, .bool (dimsP k n d l).isSome] ∧ OwnI H H' u x ∧ (∀ y, dimsP k n d l = some y → x = y) ∧ Ext H H') := by
  obtain ⟨hk, hll, hlm, hnum, hnd⟩ := formP_spec hf
  have bd := hl.bd
  obtain ⟨pl, cl, rfl⟩ := hl.inv
  have hk' : k = 1 ∨ k = 2 ∨ k = 3 ∨ k = 4 ∨ k = 5 ∨ k = 6 ∨ k = 7 ∨ k = 8 ∨ k = 9 ∨ k = 10 ∨ k = 11 ∨ k = 12 ∨ k = 13 ∨ k = 14 ∨ k = 15 ∨ k = 16 ∨ k = 17 := by omega
  refine Runs_fn (fn := Try.f46) [.tmp 8, .tmp 9] [0, 1, 2, 3, 8, 9, 10, 11, 12, 18, 119] [(32, [(7, 3)]), (24, [(5, 1)]), (22, [(4, 1)]), (20, [(6, 1), (6, 3)]), (10, [(6, 3), (9, 3)])] 3000 (by kernel_rfl) rfl (by kernel_rfl) (by kernel_rfl) rfl ?_; simp only [pad, argAt]
  rcases hk' with rfl | rfl | rfl | rfl | rfl | rfl | rfl | rfl | rfl | rfl | rfl | rfl | rfl | rfl | rfl | rfl | rfl
  · -- kind 1
    · have hm : mayP d = true := by simpa [namedP] using hnd
      have hb := (mayP_spec hm).2.1
      have hdp : dimsP 1 n d l = some d := rfl
      rw [hdp]
      simp (disch := omega) only [go_sem, Nat.reduceEqDiff, Nat.reduceAdd, ↓reduceIte, Int.reduceEq, decide_true, decide_false]
      refine callW_of (CopyNumbers_ok H h0 d vd hd (by omega)) ?_
      rintro r H1 ⟨ho, hE⟩
      obtain ⟨pr, cr, rfl⟩ := ho.ints.inv
      simp (disch := omega) only [go_sem, Nat.reduceEqDiff, Nat.reduceAdd, ↓reduceIte]
      exact ⟨_, d, rfl, ho, fun y hy => by cases hy; rfl, hE⟩
  · -- kind 2
    · have hm : mayP d = true := by simpa [namedP] using hnd
      have hb := (mayP_spec hm).2.1
      have hdp : dimsP 2 n d l = some d := rfl
      rw [hdp]
      simp (disch := omega) only [go_sem, Nat.reduceEqDiff, Nat.reduceAdd, ↓reduceIte, Int.reduceEq, decide_true, decide_false]
      refine callW_of (CopyNumbers_ok H h0 d vd hd (by omega)) ?_
      rintro r H1 ⟨ho, hE⟩
      obtain ⟨pr, cr, rfl⟩ := ho.ints.inv
      simp (disch := omega) only [go_sem, Nat.reduceEqDiff, Nat.reduceAdd, ↓reduceIte]
      exact ⟨_, d, rfl, ho, fun y hy => by cases hy; rfl, hE⟩
  · -- kind 3
    · have hm : mayP d = true := by simpa [namedP] using hnd
      have hb := (mayP_spec hm).2.1
      have hdp : dimsP 3 n d l = some d := rfl
      rw [hdp]
      simp (disch := omega) only [go_sem, Nat.reduceEqDiff, Nat.reduceAdd, ↓reduceIte, Int.reduceEq, decide_true, decide_false]
      refine callW_of (CopyNumbers_ok H h0 d vd hd (by omega)) ?_
      rintro r H1 ⟨ho, hE⟩
      obtain ⟨pr, cr, rfl⟩ := ho.ints.inv
      simp (disch := omega) only [go_sem, Nat.reduceEqDiff, Nat.reduceAdd, ↓reduceIte]
      exact ⟨_, d, rfl, ho, fun y hy => by cases hy; rfl, hE⟩
  · -- kind 4
    · have hlen : l.length = 2 := by simp [manyP] at hll; omega
      obtain ⟨u0, hu0, hi0⟩ := ldII0 hl (by omega)
      obtain ⟨u1, hu1, hi1⟩ := ldII1 hl (by omega)
      have hm0 := may_at hlm (i := 0) (by omega)
      have hm1 := may_at hlm (i := 1) (by omega)
      obtain ⟨p0, c0, rfl⟩ := hi0.inv
      obtain ⟨p1, c1, rfl⟩ := hi1.inv
      have hb0 := (mayP_spec hm0).2.1
      have hdp : dimsP 4 n d l = if l.getD 0 [] = l.getD 1 [] then some (l.getD 0 []) else none := rfl
      rw [hdp]
      clear hdp
      generalize l.getD 0 [] = A at *
      generalize l.getD 1 [] = B at *
      simp (disch := omega) only [go_sem, Nat.reduceEqDiff, Nat.reduceAdd, ↓reduceIte, Int.reduceEq, decide_true, decide_false, ixII hl, hu0, hu1]
      refine callW_of (CopyNumbers_ok H h0 A _ hi0 (by omega)) ?_
      rintro r H1 ⟨ho, hE⟩
      obtain ⟨pr, cr, rfl⟩ := ho.ints.inv
      have hl' := Intss.mono hE hl
      have hu0' := aload_ext hE hu0
      have hu1' := aload_ext hE hu1
      have hi0' := Ints.mono hE hi0
      have hi1' := Ints.mono hE hi1
      simp (disch := omega) only [go_sem, Nat.reduceEqDiff, Nat.reduceAdd, ↓reduceIte, ixII hl', hu0', hu1']
      repeat' (first | exact trivial | exact Same.of hu0' hu0 hi0.seq | exact Same.of hu1' hu1 hi1.seq | exact Same.of hu0' hu0' hi0.seq | exact Same.of hu1' hu1' hi1.seq | refine And.intro ?_ ?_)
      refine callW_of (EqNumbers_ok _ _ _ _ _ hi0' hi1') ?_
      rintro r H2 ⟨rfl, rfl⟩
      simp (disch := omega) only [go_sem, Nat.reduceEqDiff, Nat.reduceAdd, ↓reduceIte]
      repeat' (first | exact trivial | exact Same.of hu0' hu0 hi0.seq | exact Same.of hu1' hu1 hi1.seq | exact Same.of hu0' hu0' hi0.seq | exact Same.of hu1' hu1' hi1.seq | refine And.intro ?_ ?_)
      refine ⟨_, A, ?_, ho, fun y hy => ?_, hE⟩
      · rw [show (if A = B then some A else none).isSome = decide (A = B) by by_cases h : A = B <;> simp [h]]
      · split at hy
        · cases hy; rfl
        · cases hy
  · -- kind 5
    · have hlen : l.length = 2 := by simp [manyP] at hll; omega
      obtain ⟨u0, hu0, hi0⟩ := ldII0 hl (by omega)
      obtain ⟨u1, hu1, hi1⟩ := ldII1 hl (by omega)
      have hm0 := may_at hlm (i := 0) (by omega)
      have hm1 := may_at hlm (i := 1) (by omega)
      obtain ⟨p0, c0, rfl⟩ := hi0.inv
      obtain ⟨p1, c1, rfl⟩ := hi1.inv
      have hb0 := (mayP_spec hm0).2.1
      have hdp : dimsP 5 n d l = if l.getD 0 [] = l.getD 1 [] then some (l.getD 0 []) else none := rfl
      rw [hdp]
      clear hdp
      generalize l.getD 0 [] = A at *
      generalize l.getD 1 [] = B at *
      simp (disch := omega) only [go_sem, Nat.reduceEqDiff, Nat.reduceAdd, ↓reduceIte, Int.reduceEq, decide_true, decide_false, ixII hl, hu0, hu1]
      refine callW_of (CopyNumbers_ok H h0 A _ hi0 (by omega)) ?_
      rintro r H1 ⟨ho, hE⟩
      obtain ⟨pr, cr, rfl⟩ := ho.ints.inv
      have hl' := Intss.mono hE hl
      have hu0' := aload_ext hE hu0
      have hu1' := aload_ext hE hu1
      have hi0' := Ints.mono hE hi0
      have hi1' := Ints.mono hE hi1
      simp (disch := omega) only [go_sem, Nat.reduceEqDiff, Nat.reduceAdd, ↓reduceIte, ixII hl', hu0', hu1']
      repeat' (first | exact trivial | exact Same.of hu0' hu0 hi0.seq | exact Same.of hu1' hu1 hi1.seq | exact Same.of hu0' hu0' hi0.seq | exact Same.of hu1' hu1' hi1.seq | refine And.intro ?_ ?_)
      refine callW_of (EqNumbers_ok _ _ _ _ _ hi0' hi1') ?_
      rintro r H2 ⟨rfl, rfl⟩
      simp (disch := omega) only [go_sem, Nat.reduceEqDiff, Nat.reduceAdd, ↓reduceIte]
      repeat' (first | exact trivial | exact Same.of hu0' hu0 hi0.seq | exact Same.of hu1' hu1 hi1.seq | exact Same.of hu0' hu0' hi0.seq | exact Same.of hu1' hu1' hi1.seq | refine And.intro ?_ ?_)
      refine ⟨_, A, ?_, ho, fun y hy => ?_, hE⟩
      · rw [show (if A = B then some A else none).isSome = decide (A = B) by by_cases h : A = B <;> simp [h]]
      · split at hy
        · cases hy; rfl
        · cases hy
  · -- kind 6
    · have hlen : l.length = 2 := by simp [manyP] at hll; omega
      obtain ⟨u0, hu0, hi0⟩ := ldII0 hl (by omega)
      obtain ⟨u1, hu1, hi1⟩ := ldII1 hl (by omega)
      have hm0 := may_at hlm (i := 0) (by omega)
      have hm1 := may_at hlm (i := 1) (by omega)
      obtain ⟨p0, c0, rfl⟩ := hi0.inv
      obtain ⟨p1, c1, rfl⟩ := hi1.inv
      have hb0 := (mayP_spec hm0).2.1
      have hdp : dimsP 6 n d l = if l.getD 0 [] = l.getD 1 [] then some (l.getD 0 []) else none := rfl
      rw [hdp]
      clear hdp
      generalize l.getD 0 [] = A at *
      generalize l.getD 1 [] = B at *
      simp (disch := omega) only [go_sem, Nat.reduceEqDiff, Nat.reduceAdd, ↓reduceIte, Int.reduceEq, decide_true, decide_false, ixII hl, hu0, hu1]
      refine callW_of (CopyNumbers_ok H h0 A _ hi0 (by omega)) ?_
      rintro r H1 ⟨ho, hE⟩
      obtain ⟨pr, cr, rfl⟩ := ho.ints.inv
      have hl' := Intss.mono hE hl
      have hu0' := aload_ext hE hu0
      have hu1' := aload_ext hE hu1
      have hi0' := Ints.mono hE hi0
      have hi1' := Ints.mono hE hi1
      simp (disch := omega) only [go_sem, Nat.reduceEqDiff, Nat.reduceAdd, ↓reduceIte, ixII hl', hu0', hu1']
      repeat' (first | exact trivial | exact Same.of hu0' hu0 hi0.seq | exact Same.of hu1' hu1 hi1.seq | exact Same.of hu0' hu0' hi0.seq | exact Same.of hu1' hu1' hi1.seq | refine And.intro ?_ ?_)
      refine callW_of (EqNumbers_ok _ _ _ _ _ hi0' hi1') ?_
      rintro r H2 ⟨rfl, rfl⟩
      simp (disch := omega) only [go_sem, Nat.reduceEqDiff, Nat.reduceAdd, ↓reduceIte]
      repeat' (first | exact trivial | exact Same.of hu0' hu0 hi0.seq | exact Same.of hu1' hu1 hi1.seq | exact Same.of hu0' hu0' hi0.seq | exact Same.of hu1' hu1' hi1.seq | refine And.intro ?_ ?_)
      refine ⟨_, A, ?_, ho, fun y hy => ?_, hE⟩
      · rw [show (if A = B then some A else none).isSome = decide (A = B) by by_cases h : A = B <;> simp [h]]
      · split at hy
        · cases hy; rfl
        · cases hy
  · -- kind 7
    · have hlen : l.length = 1 := by simp [manyP] at hll; omega
      obtain ⟨u0, hu0, hi0⟩ := ldII0 hl (by omega)
      have hm0 := may_at hlm (i := 0) (by omega)
      obtain ⟨p0, c0, rfl⟩ := hi0.inv
      have hb0 := (mayP_spec hm0).2.1
      have hdp : dimsP 7 n d l = some (l.getD 0 []) := rfl
      rw [hdp]
      clear hdp
      generalize l.getD 0 [] = A at *
      simp (disch := omega) only [go_sem, Nat.reduceEqDiff, Nat.reduceAdd, ↓reduceIte, Int.reduceEq, decide_true, decide_false, ixII hl, hu0]
      refine callW_of (CopyNumbers_ok H h0 A _ hi0 (by omega)) ?_
      rintro r H1 ⟨ho, hE⟩
      obtain ⟨pr, cr, rfl⟩ := ho.ints.inv
      simp (disch := omega) only [go_sem, Nat.reduceEqDiff, Nat.reduceAdd, ↓reduceIte]
      exact ⟨_, A, rfl, ho, fun y hy => by cases hy; rfl, hE⟩
  · -- kind 8
    · have hlen : l.length = 1 := by simp [manyP] at hll; omega
      obtain ⟨u0, hu0, hi0⟩ := ldII0 hl (by omega)
      have hm0 := may_at hlm (i := 0) (by omega)
      obtain ⟨p0, c0, rfl⟩ := hi0.inv
      have hb0 := (mayP_spec hm0).2.1
      have hdp : dimsP 8 n d l = some (l.getD 0 []) := rfl
      rw [hdp]
      clear hdp
      generalize l.getD 0 [] = A at *
      simp (disch := omega) only [go_sem, Nat.reduceEqDiff, Nat.reduceAdd, ↓reduceIte, Int.reduceEq, decide_true, decide_false, ixII hl, hu0]
      refine callW_of (CopyNumbers_ok H h0 A _ hi0 (by omega)) ?_
      rintro r H1 ⟨ho, hE⟩
      obtain ⟨pr, cr, rfl⟩ := ho.ints.inv
      simp (disch := omega) only [go_sem, Nat.reduceEqDiff, Nat.reduceAdd, ↓reduceIte]
      exact ⟨_, A, rfl, ho, fun y hy => by cases hy; rfl, hE⟩
  · -- kind 9
    · have hlen : l.length = 2 := by simp [manyP] at hll; omega
      obtain ⟨u0, hu0, hi0⟩ := ldII0 hl (by omega)
      obtain ⟨u1, hu1, hi1⟩ := ldII1 hl (by omega)
      have hm0 := may_at hlm (i := 0) (by omega)
      have hm1 := may_at hlm (i := 1) (by omega)
      obtain ⟨p0, c0, rfl⟩ := hi0.inv
      obtain ⟨p1, c1, rfl⟩ := hi1.inv
      have hb0 := (mayP_spec hm0).2.1
      have hdp : dimsP 9 n d l = if (l.getD 0 []).length = 2 ∧ (l.getD 1 []).length = 2 ∧ gi (l.getD 0 []) 1 = gi (l.getD 1 []) 0 then some [gi (l.getD 0 []) 0, gi (l.getD 1 []) 1] else none := rfl
      rw [hdp]
      clear hdp
      generalize l.getD 0 [] = A at *
      generalize l.getD 1 [] = B at *
      simp (disch := omega) only [go_sem, Nat.reduceEqDiff, Nat.reduceAdd, ↓reduceIte, Int.reduceEq, decide_true, decide_false, ixII hl, hu0, hu1]
      refine SplitG.mk (fun h1 => ?_) (fun h1 => ?_)
      · simp (disch := omega) only [go_sem, Nat.reduceEqDiff, Nat.reduceAdd, ↓reduceIte]
        rw [if_neg (by rintro ⟨h, _, _⟩; omega)]
        exact ⟨_, [], rfl, OwnI.nil _ _, (fun y hy => by cases hy), Ext.refl _⟩
      · simp (disch := omega) only [go_sem, Nat.reduceEqDiff, Nat.reduceAdd, ↓reduceIte, ixII hl, hu0, hu1]
        refine SplitG.mk (fun h2 => ?_) (fun h2 => ?_)
        · simp (disch := omega) only [go_sem, Nat.reduceEqDiff, Nat.reduceAdd, ↓reduceIte]
          rw [if_neg (by rintro ⟨_, h, _⟩; omega)]
          exact ⟨_, [], rfl, OwnI.nil _ _, (fun y hy => by cases hy), Ext.refl _⟩
        · simp (disch := omega) only [go_sem, Nat.reduceEqDiff, Nat.reduceAdd, ↓reduceIte, ixII hl, hu0, hu1, ixI hi0, ldI hi0, ixI hi1, ldI hi1]
          refine Split.mk (fun h3 => ?_) (fun h3 => ?_)
          · simp (disch := omega) only [go_sem, Nat.reduceEqDiff, Nat.reduceAdd, ↓reduceIte]
            rw [if_neg (by rintro ⟨_, _, h⟩; exact h3 h)]
            exact ⟨_, [], rfl, OwnI.nil _ _, (fun y hy => by cases hy), Ext.refl _⟩
          · obtain ⟨hE, hn2⟩ : Ext H (H.push [.int .i64 (gi A 0), .int .i64 (gi B 1)]) ∧ OwnI H (H.push [.int .i64 (gi A 0), .int .i64 (gi B 1)]) (.slice (some ⟨H.size, 0, none⟩) 2 1) [gi A 0, gi B 1] :=
              ⟨Ext.push _ _, Own.mk H.size 2 _ (Nat.le_refl _) h0 rfl (by rw [AH.get_push, if_pos rfl]; rfl) rfl (by omega)⟩
            simp (disch := omega) only [go_sem, Nat.reduceEqDiff, Nat.reduceAdd, ↓reduceIte, ixII hl, hu0, hu1, ixI hi0, ldI hi0, ixI hi1, ldI hi1, bslice_2 stI _ _ (cells_int (k := .i64) (i := gi A 0)) (cells_int (k := .i64) (i := gi B 1))]
            rw [if_pos ⟨by omega, by omega, by simpa using h3⟩]
            exact ⟨_, [gi A 0, gi B 1], rfl, hn2, fun y hy => by cases hy; rfl, hE⟩
  · -- kind 10
    · have hlen : l.length = 1 := by simp [manyP] at hll; omega
      obtain ⟨u0, hu0, hi0⟩ := ldII0 hl (by omega)
      have hm0 := may_at hlm (i := 0) (by omega)
      obtain ⟨p0, c0, rfl⟩ := hi0.inv
      have hb0 := (mayP_spec hm0).2.1
      have hdp : dimsP 10 n d l = if (l.getD 0 []).length = 2 then some [gi (l.getD 0 []) 1, gi (l.getD 0 []) 0] else none := rfl
      rw [hdp]
      clear hdp
      generalize l.getD 0 [] = A at *
      simp (disch := omega) only [go_sem, Nat.reduceEqDiff, Nat.reduceAdd, ↓reduceIte, Int.reduceEq, decide_true, decide_false, ixII hl, hu0]
      refine Split.mk (fun h => ?_) (fun h => ?_)
      · simp (disch := omega) only [go_sem, Nat.reduceEqDiff, Nat.reduceAdd, ↓reduceIte]
        rw [if_neg (by omega)]
        exact ⟨_, [], rfl, OwnI.nil _ _, (fun y hy => by cases hy), Ext.refl _⟩
      · obtain ⟨hE, hn2⟩ : Ext H (H.push [.int .i64 (gi A 1), .int .i64 (gi A 0)]) ∧ OwnI H (H.push [.int .i64 (gi A 1), .int .i64 (gi A 0)]) (.slice (some ⟨H.size, 0, none⟩) 2 1) [gi A 1, gi A 0] :=
          ⟨Ext.push _ _, Own.mk H.size 2 _ (Nat.le_refl _) h0 rfl (by rw [AH.get_push, if_pos rfl]; rfl) rfl (by omega)⟩
        simp (disch := omega) only [go_sem, Nat.reduceEqDiff, Nat.reduceAdd, ↓reduceIte, ixII hl, hu0, ixI hi0, ldI hi0, bslice_2 stI _ _ (cells_int (k := .i64) (i := gi A 1)) (cells_int (k := .i64) (i := gi A 0))]
        rw [if_pos (by omega)]
        exact ⟨_, [gi A 1, gi A 0], rfl, hn2, fun y hy => by cases hy; rfl, hE⟩
  · -- kind 11
    · have hlen : l.length = 1 := by simp [manyP] at hll; omega
      obtain ⟨u0, hu0, hi0⟩ := ldII0 hl (by omega)
      have hm0 := may_at hlm (i := 0) (by omega)
      obtain ⟨p0, c0, rfl⟩ := hi0.inv
      have hb0 := (mayP_spec hm0).2.1
      have hm : mayP d = true := by simpa [namedP] using hnd
      have hb := (mayP_spec hm).2.1
      have hdp : dimsP 11 n d l = if prodL d = prodL (l.getD 0 []) then some d else none := rfl
      rw [hdp]
      clear hdp
      generalize l.getD 0 [] = A at *
      simp (disch := omega) only [go_sem, Nat.reduceEqDiff, Nat.reduceAdd, ↓reduceIte, Int.reduceEq, decide_true, decide_false, ixII hl, hu0]
      refine callW_of (CopyNumbers_ok H h0 d _ hd (by omega)) ?_
      rintro r H1 ⟨ho, hE⟩
      obtain ⟨pr, cr, rfl⟩ := ho.ints.inv
      have hl' := Intss.mono hE hl
      have hu0' := aload_ext hE hu0
      have hi0' := Ints.mono hE hi0
      have hd' := Ints.mono hE hd
      simp (disch := omega) only [go_sem, Nat.reduceEqDiff, Nat.reduceAdd, ↓reduceIte, ixII hl', hu0']
      repeat' (first | exact trivial | exact Same.of hu0' hu0 hi0.seq | exact Same.of hu0' hu0' hi0.seq | refine And.intro ?_ ?_)
      refine callW_of (Cells_ok _ _ _ hd') ?_
      rintro r H2 ⟨rfl, rfl⟩
      simp (disch := omega) only [go_sem, Nat.reduceEqDiff, Nat.reduceAdd, ↓reduceIte, ixII hl', hu0']
      repeat' (first | exact trivial | exact Same.of hu0' hu0 hi0.seq | exact Same.of hu0' hu0' hi0.seq | refine And.intro ?_ ?_)
      refine callW_of (Cells_ok _ _ _ hi0') ?_
      rintro r H2 ⟨rfl, rfl⟩
      simp (disch := omega) only [go_sem, Nat.reduceEqDiff, Nat.reduceAdd, ↓reduceIte]
      repeat' (first | exact trivial | exact Same.of hu0' hu0 hi0.seq | exact Same.of hu0' hu0' hi0.seq | refine And.intro ?_ ?_)
      refine ⟨_, d, ?_, ho, fun y hy => ?_, hE⟩
      · by_cases h : prodL d = prodL A <;> simp [h]
      · split at hy
        · cases hy; rfl
        · cases hy
  · -- kind 12
    · have hlen : l.length = 1 := by simp [manyP] at hll; omega
      obtain ⟨u0, hu0, hi0⟩ := ldII0 hl (by omega)
      have hm0 := may_at hlm (i := 0) (by omega)
      obtain ⟨p0, c0, rfl⟩ := hi0.inv
      have hb0 := (mayP_spec hm0).2.1
      have hm : mayP d = true := by simpa [namedP] using hnd
      have hb := (mayP_spec hm).2.1
      have hdp : dimsP 12 n d l = if growsP (l.getD 0 []) d then some d else none := rfl
      rw [hdp]
      clear hdp
      generalize l.getD 0 [] = A at *
      simp (disch := omega) only [go_sem, Nat.reduceEqDiff, Nat.reduceAdd, ↓reduceIte, Int.reduceEq, decide_true, decide_false, ixII hl, hu0]
      refine callW_of (CopyNumbers_ok H h0 d _ hd (by omega)) ?_
      rintro r H1 ⟨ho, hE⟩
      obtain ⟨pr, cr, rfl⟩ := ho.ints.inv
      have hl' := Intss.mono hE hl
      have hu0' := aload_ext hE hu0
      have hi0' := Ints.mono hE hi0
      have hd' := Ints.mono hE hd
      simp (disch := omega) only [go_sem, Nat.reduceEqDiff, Nat.reduceAdd, ↓reduceIte, ixII hl', hu0']
      repeat' (first | exact trivial | exact Same.of hu0' hu0 hi0.seq | exact Same.of hu0' hu0' hi0.seq | refine And.intro ?_ ?_)
      refine callW_of (Wider_ok _ _ _ _ _ hi0' hd') ?_
      rintro r H2 ⟨rfl, rfl⟩
      simp (disch := omega) only [go_sem, Nat.reduceEqDiff, Nat.reduceAdd, ↓reduceIte]
      repeat' (first | exact trivial | exact Same.of hu0' hu0 hi0.seq | exact Same.of hu0' hu0' hi0.seq | refine And.intro ?_ ?_)
      refine ⟨_, d, ?_, ho, fun y hy => ?_, hE⟩
      · by_cases h : growsP A d <;> simp [h]
      · split at hy
        · cases hy; rfl
        · cases hy
  · -- kind 13
    · have hlen : l.length = 1 := by simp [manyP] at hll; omega
      obtain ⟨u0, hu0, hi0⟩ := ldII0 hl (by omega)
      have hm0 := may_at hlm (i := 0) (by omega)
      obtain ⟨p0, c0, rfl⟩ := hi0.inv
      have hb0 := (mayP_spec hm0).2.1
      have hm : mayP d = true := by simpa [namedP] using hnd
      have hb := (mayP_spec hm).2.1
      have hdp : dimsP 13 n d l = if growsP d (l.getD 0 []) then some d else none := rfl
      rw [hdp]
      clear hdp
      generalize l.getD 0 [] = A at *
      simp (disch := omega) only [go_sem, Nat.reduceEqDiff, Nat.reduceAdd, ↓reduceIte, Int.reduceEq, decide_true, decide_false, ixII hl, hu0]
      refine callW_of (CopyNumbers_ok H h0 d _ hd (by omega)) ?_
      rintro r H1 ⟨ho, hE⟩
      obtain ⟨pr, cr, rfl⟩ := ho.ints.inv
      have hl' := Intss.mono hE hl
      have hu0' := aload_ext hE hu0
      have hi0' := Ints.mono hE hi0
      have hd' := Ints.mono hE hd
      simp (disch := omega) only [go_sem, Nat.reduceEqDiff, Nat.reduceAdd, ↓reduceIte, ixII hl', hu0']
      repeat' (first | exact trivial | exact Same.of hu0' hu0 hi0.seq | exact Same.of hu0' hu0' hi0.seq | refine And.intro ?_ ?_)
      refine callW_of (Wider_ok _ _ _ _ _ hd' hi0') ?_
      rintro r H2 ⟨rfl, rfl⟩
      simp (disch := omega) only [go_sem, Nat.reduceEqDiff, Nat.reduceAdd, ↓reduceIte]
      repeat' (first | exact trivial | exact Same.of hu0' hu0 hi0.seq | exact Same.of hu0' hu0' hi0.seq | refine And.intro ?_ ?_)
      refine ⟨_, d, ?_, ho, fun y hy => ?_, hE⟩
      · by_cases h : growsP d A <;> simp [h]
      · split at hy
        · cases hy; rfl
        · cases hy
  · -- kind 14
    · have hlen : l.length = 1 := by simp [manyP] at hll; omega
      obtain ⟨u0, hu0, hi0⟩ := ldII0 hl (by omega)
      have hm0 := may_at hlm (i := 0) (by omega)
      obtain ⟨p0, c0, rfl⟩ := hi0.inv
      have hb0 := (mayP_spec hm0).2.1
      have hdp : dimsP 14 n d l = some (l.getD 0 []) := rfl
      rw [hdp]
      clear hdp
      generalize l.getD 0 [] = A at *
      simp (disch := omega) only [go_sem, Nat.reduceEqDiff, Nat.reduceAdd, ↓reduceIte, Int.reduceEq, decide_true, decide_false, ixII hl, hu0]
      refine callW_of (CopyNumbers_ok H h0 A _ hi0 (by omega)) ?_
      rintro r H1 ⟨ho, hE⟩
      obtain ⟨pr, cr, rfl⟩ := ho.ints.inv
      simp (disch := omega) only [go_sem, Nat.reduceEqDiff, Nat.reduceAdd, ↓reduceIte]
      exact ⟨_, A, rfl, ho, fun y hy => by cases hy; rfl, hE⟩
  · -- kind 15
    · have hlen : l.length = 1 := by simp [manyP] at hll; omega
      obtain ⟨u0, hu0, hi0⟩ := ldII0 hl (by omega)
      have hm0 := may_at hlm (i := 0) (by omega)
      obtain ⟨p0, c0, rfl⟩ := hi0.inv
      have hb0 := (mayP_spec hm0).2.1
      have hnn : 1 ≤ n ∧ n ≤ 8 := by simpa [numberP] using hnum
      have hdp : dimsP 15 n d l = if lessOk (l.getD 0 []) n then some (lessP (l.getD 0 []) n) else none := rfl
      rw [hdp]
      clear hdp
      generalize l.getD 0 [] = A at *
      have hm1' := (mayP_spec hm0).1
      have hlast := mayP_gi hm0 ((A.length : Int) - 1) (by omega)
      have hrem : (gi A ((A.length : Int) - 1)).tmod n = lastI A % n := by rw [Int.tmod_eq_emod_of_nonneg (by omega)]; rfl
      simp (disch := omega) only [go_sem, Nat.reduceEqDiff, Nat.reduceAdd, ↓reduceIte, Int.reduceEq, decide_true, decide_false, ixII hl, hu0, ixI hi0, ldI hi0, hrem]
      refine ⟨by omega, ?_⟩
      refine Split.mk (fun h => ?_) (fun h => ?_)
      · simp (disch := omega) only [go_sem, Nat.reduceEqDiff, Nat.reduceAdd, ↓reduceIte]
        rw [if_neg (by simpa [lessOk] using h)]
        exact ⟨_, [], rfl, OwnI.nil _ _, (fun y hy => by cases hy), Ext.refl _⟩
      · have h : lessOk A n = true := by simpa [lessOk] using h
        simp (disch := omega) only [go_sem, Nat.reduceEqDiff, Nat.reduceAdd, ↓reduceIte, ixII hl, hu0]
        refine callW_of (RefLess_ok H h0 A n _ hi0 hm0 hnn) ?_
        rintro r H1 ⟨ho, hE⟩
        obtain ⟨pr, cr, rfl⟩ := ho.ints.inv
        simp (disch := omega) only [go_sem, Nat.reduceEqDiff, Nat.reduceAdd, ↓reduceIte, Int.reduceEq, decide_true, decide_false]
        rw [if_pos h]
        exact ⟨_, lessP A n, rfl, ho, fun y hy => by cases hy; rfl, hE⟩
  · -- kind 16
    · have hlen : l.length = 2 := by simp [manyP] at hll; omega
      obtain ⟨u0, hu0, hi0⟩ := ldII0 hl (by omega)
      obtain ⟨u1, hu1, hi1⟩ := ldII1 hl (by omega)
      have hm0 := may_at hlm (i := 0) (by omega)
      have hm1 := may_at hlm (i := 1) (by omega)
      obtain ⟨p0, c0, rfl⟩ := hi0.inv
      obtain ⟨p1, c1, rfl⟩ := hi1.inv
      have hb0 := (mayP_spec hm0).2.1
      have hdp : dimsP 16 n d l = if l.getD 0 [] = l.getD 1 [] then some (l.getD 0 []) else none := rfl
      rw [hdp]
      clear hdp
      generalize l.getD 0 [] = A at *
      generalize l.getD 1 [] = B at *
      simp (disch := omega) only [go_sem, Nat.reduceEqDiff, Nat.reduceAdd, ↓reduceIte, Int.reduceEq, decide_true, decide_false, ixII hl, hu0, hu1]
      refine callW_of (CopyNumbers_ok H h0 A _ hi0 (by omega)) ?_
      rintro r H1 ⟨ho, hE⟩
      obtain ⟨pr, cr, rfl⟩ := ho.ints.inv
      have hl' := Intss.mono hE hl
      have hu0' := aload_ext hE hu0
      have hu1' := aload_ext hE hu1
      have hi0' := Ints.mono hE hi0
      have hi1' := Ints.mono hE hi1
      simp (disch := omega) only [go_sem, Nat.reduceEqDiff, Nat.reduceAdd, ↓reduceIte, ixII hl', hu0', hu1']
      repeat' (first | exact trivial | exact Same.of hu0' hu0 hi0.seq | exact Same.of hu1' hu1 hi1.seq | exact Same.of hu0' hu0' hi0.seq | exact Same.of hu1' hu1' hi1.seq | refine And.intro ?_ ?_)
      refine callW_of (EqNumbers_ok _ _ _ _ _ hi0' hi1') ?_
      rintro r H2 ⟨rfl, rfl⟩
      simp (disch := omega) only [go_sem, Nat.reduceEqDiff, Nat.reduceAdd, ↓reduceIte]
      repeat' (first | exact trivial | exact Same.of hu0' hu0 hi0.seq | exact Same.of hu1' hu1 hi1.seq | exact Same.of hu0' hu0' hi0.seq | exact Same.of hu1' hu1' hi1.seq | refine And.intro ?_ ?_)
      refine ⟨_, A, ?_, ho, fun y hy => ?_, hE⟩
      · rw [show (if A = B then some A else none).isSome = decide (A = B) by by_cases h : A = B <;> simp [h]]
      · split at hy
        · cases hy; rfl
        · cases hy
  · -- kind 17
    · have hlen : l.length = 2 := by simp [manyP] at hll; omega
      obtain ⟨u0, hu0, hi0⟩ := ldII0 hl (by omega)
      obtain ⟨u1, hu1, hi1⟩ := ldII1 hl (by omega)
      have hm0 := may_at hlm (i := 0) (by omega)
      have hm1 := may_at hlm (i := 1) (by omega)
      obtain ⟨p0, c0, rfl⟩ := hi0.inv
      obtain ⟨p1, c1, rfl⟩ := hi1.inv
      have hb0 := (mayP_spec hm0).2.1
      have hnn : 1 ≤ n ∧ n ≤ 8 := by simpa [numberP] using hnum
      have hdp : dimsP 17 n d l = if lessOk (l.getD 0 []) n ∧ lessP (l.getD 0 []) n = l.getD 1 [] then some (l.getD 0 []) else none := rfl
      rw [hdp]
      clear hdp
      generalize l.getD 0 [] = A at *
      generalize l.getD 1 [] = B at *
      have hm1' := (mayP_spec hm0).1
      have hlast := mayP_gi hm0 ((A.length : Int) - 1) (by omega)
      have hrem : (gi A ((A.length : Int) - 1)).tmod n = lastI A % n := by rw [Int.tmod_eq_emod_of_nonneg (by omega)]; rfl
      simp (disch := omega) only [go_sem, Nat.reduceEqDiff, Nat.reduceAdd, ↓reduceIte, Int.reduceEq, decide_true, decide_false, ixII hl, hu0, ixI hi0, ldI hi0, hrem]
      refine ⟨by omega, ?_⟩
      refine Split.mk (fun h => ?_) (fun h => ?_)
      · simp (disch := omega) only [go_sem, Nat.reduceEqDiff, Nat.reduceAdd, ↓reduceIte]
        rw [if_neg (by rintro ⟨h2, _⟩; exact h (by simpa [lessOk] using h2))]
        exact ⟨_, [], rfl, OwnI.nil _ _, (fun y hy => by cases hy), Ext.refl _⟩
      · have h : lessOk A n = true := by simpa [lessOk] using h
        simp (disch := omega) only [go_sem, Nat.reduceEqDiff, Nat.reduceAdd, ↓reduceIte, ixII hl, hu0]
        refine callW_of (RefLess_ok H h0 A n _ hi0 hm0 hnn) ?_
        rintro r H1 ⟨hol, hE0⟩
        obtain ⟨pl2, cl2, rfl⟩ := hol.ints.inv
        have hl1 := Intss.mono hE0 hl
        have hu01 := aload_ext hE0 hu0
        have hu11 := aload_ext hE0 hu1
        have hi01 := Ints.mono hE0 hi0
        have hi11 := Ints.mono hE0 hi1
        have h01 : H1.ro ≤ H1.size := by have := hE0.ro; have := hE0.size; omega
        simp (disch := omega) only [go_sem, Nat.reduceEqDiff, Nat.reduceAdd, ↓reduceIte, Int.reduceEq, decide_true, decide_false, ixII hl1, hu01]
        refine callW_of (CopyNumbers_ok H1 h01 A _ hi01 (by omega)) ?_
        rintro r H2 ⟨ho, hE⟩
        obtain ⟨pr, cr, rfl⟩ := ho.ints.inv
        have hl' := Intss.mono hE hl1
        have hu1' := aload_ext hE hu11
        have hi1' := Ints.mono hE hi11
        have hol' := Ints.mono hE hol.ints
        simp (disch := omega) only [go_sem, Nat.reduceEqDiff, Nat.reduceAdd, ↓reduceIte, ixII hl', hu1']
        repeat' (first | exact trivial | exact Same.of hu1' hu11 hi1.seq | exact Same.of hu1' hu1' hi1.seq | refine And.intro ?_ ?_)
        refine callW_of (EqNumbers_ok _ _ _ _ _ hol' hi1') ?_
        rintro r H3 ⟨rfl, rfl⟩
        simp (disch := omega) only [go_sem, Nat.reduceEqDiff, Nat.reduceAdd, ↓reduceIte]
        repeat' (first | exact trivial | exact Same.of hu1' hu11 hi1.seq | exact Same.of hu1' hu1' hi1.seq | refine And.intro ?_ ?_)
        refine ⟨_, A, ?_, OwnI.weak ho hE0.size hE0.ro h0, fun y hy => ?_, hE0.trans hE⟩
        · by_cases h2 : lessP A n = B <;> simp [h, h2]
        · split at hy
          · cases hy; rfl
          · cases hy
end Go.Proofs.K

/- Tensors. -/
set_option linter.unusedVariables false
set_option maxRecDepth 8000
set_option maxHeartbeats 4000000
set_option linter.unusedSimpArgs false
namespace Go.Proofs.K
open Go Go.Ab

abbrev Ten := List Int × List Int
def RTen : AH → (Nat → Option Value) → Ten → Prop := fun H f t => ∃ vd vx, f 0 = some vd ∧ f 1 = some vx ∧ Ints H vd t.1 ∧ Ints H vx t.2
abbrev Tens := Sl 2 RTen
theorem Tens.mono {H H' : AH} (hE : Ext H H') {v : Value} {l : List Ten} (h : Tens H v l) : Tens H' v l :=
  Sl.mono (fun f g x hk hr => let ⟨vd, vx, e1, e2, h1, h2⟩ := hr; ⟨vd, vx, hk 0 _ e1, hk 1 _ e2, Ints.mono hE h1, Ints.mono hE h2⟩) hE h
/-- A tensor's value. -/
def TenV (H : AH) (v : Value) (t : Ten) : Prop := ∃ vd vx, v = .agg #[vd, vx] ∧ Ints H vd t.1 ∧ Ints H vx t.2
theorem TenV.mono {H H' : AH} (hE : Ext H H') {v : Value} {t : Ten} (h : TenV H v t) : TenV H' v t :=
  let ⟨vd, vx, e, h1, h2⟩ := h
  ⟨vd, vx, e, Ints.mono hE h1, Ints.mono hE h2⟩
theorem ixT {H : AH} {a : Option Addr} {n c : Nat} {l : List Ten} (h : Tens H (.slice a n c) l) (k : IntKind) (z : Int) (hz : 0 ≤ z ∧ z < l.length) : aindex tb 22 (.slice a n c) (.int k z) = some (elp a c z 0) := h.ix ty22 rfl ty32 rfl k z hz
theorem ldT {H : AH} {a : Option Addr} {n c : Nat} {l : List Ten} (h : Tens H (.slice a n c) l) (i : Nat) (hi : i < l.length) : ∃ v, aload tb 32 (elp a c i 0) H.get = some v ∧ TenV H v l[i] := by
  obtain ⟨x, hx, vd, vx, e1, e2, h1, h2⟩ := h.at_ i hi
  rw [List.getElem?_eq_getElem hi] at hx
  cases hx
  exact ⟨_, h.ld2 ty32 rfl rfl i (by simpa using e1) (by simpa using e2), vd, vx, rfl, h1, h2⟩
def isT (t : Ten) : Bool := mayP t.1 && decide ((t.2.length : Int) = prodL t.1)

theorem box0 (H : AH) (vd vx : Value) : aload tb 23 (.pointer (some ⟨H.size, 0, none⟩)) (H.push [vd, vx]).get = some vd := boxld ty23 rfl H _ 0 rfl
theorem box1 (H : AH) (vd vx : Value) : aload tb 23 (.pointer (some ⟨H.size, 1, none⟩)) (H.push [vd, vx]).get = some vx := boxld ty23 rfl H _ 1 rfl

theorem Is_ok (H : AH) (t : Ten) (v : Value) (h : TenV H v t) : Runs tb 56 [v] H (fun r H' => r = .bool (isT t) ∧ Ext H H') := by
  obtain ⟨vd, vx, rfl, hd, hx⟩ := h
  obtain ⟨pd, cd, rfl⟩ := hd.inv
  obtain ⟨px, cx, rfl⟩ := hx.inv
  have hE := Ext.push H [.slice pd t.1.length cd, .slice px t.2.length cx]
  have b0 := box0 H (.slice pd t.1.length cd) (.slice px t.2.length cx)
  have b1 := box1 H (.slice pd t.1.length cd) (.slice px t.2.length cx)
  have hd' := Ints.mono hE hd
  generalize hG : H.push [.slice pd t.1.length cd, .slice px t.2.length cx] = G at *
  refine Runs_fn (fn := Try.f56) [.tmp 2] [0, 1, 2] [(1, [(5, 9)])] 3000 (by kernel_rfl) rfl (by kernel_rfl) (by kernel_rfl) rfl ?_; simp only [pad, argAt]
  simp (disch := omega) only [go_sem, Nat.reduceEqDiff, Nat.reduceAdd, ↓reduceIte, hG, b0, b1]
  refine callW_of (May_ok _ _ _ hd') ?_
  rintro r H1 ⟨rfl, rfl⟩
  simp (disch := omega) only [go_sem, Nat.reduceEqDiff, Nat.reduceAdd, ↓reduceIte]
  refine SplitG.mk (fun h1 => ?_) (fun h1 => ?_)
  · simp (disch := omega) only [go_sem, Nat.reduceEqDiff, Nat.reduceAdd, ↓reduceIte, b0, b1]
    repeat' (first | exact trivial | exact Same.of b1 b1 hx.seq | refine And.intro ?_ ?_)
    refine callW_of (Product_ok _ _ _ hd') ?_
    rintro r H2 ⟨rfl, rfl⟩
    simp (disch := omega) only [go_sem, Nat.reduceEqDiff, Nat.reduceAdd, ↓reduceIte]
    repeat' (first | exact trivial | exact Same.of b1 b1 hx.seq | refine And.intro ?_ ?_)
    · simp [isT, h1]
    · exact hE
  · simp (disch := omega) only [go_sem, Nat.reduceEqDiff, Nat.reduceAdd, ↓reduceIte]
    exact ⟨by simp [isT, h1], hE⟩

theorem RefTensor_ok (H : AH) (t : Ten) (v : Value) (h : TenV H v t) : Runs tb 30 [v] H (fun r H' => r = .bool (isT t) ∧ Ext H H') := by
  obtain ⟨vd, vx, rfl, hd, hx⟩ := h
  obtain ⟨pd, cd, rfl⟩ := hd.inv
  obtain ⟨px, cx, rfl⟩ := hx.inv
  have hE := Ext.push H [.slice pd t.1.length cd, .slice px t.2.length cx]
  have b0 := box0 H (.slice pd t.1.length cd) (.slice px t.2.length cx)
  have b1 := box1 H (.slice pd t.1.length cd) (.slice px t.2.length cx)
  have hd' := Ints.mono hE hd
  generalize hG : H.push [.slice pd t.1.length cd, .slice px t.2.length cx] = G at *
  refine Runs_fn (fn := Try.f30) [.tmp 2] [0, 1, 2] [(1, [(5, 9)])] 3000 (by kernel_rfl) rfl (by kernel_rfl) (by kernel_rfl) rfl ?_; simp only [pad, argAt]
  simp (disch := omega) only [go_sem, Nat.reduceEqDiff, Nat.reduceAdd, ↓reduceIte, hG, b0, b1]
  refine callW_of (RefDims_ok _ _ _ hd') ?_
  rintro r H1 ⟨rfl, rfl⟩
  simp (disch := omega) only [go_sem, Nat.reduceEqDiff, Nat.reduceAdd, ↓reduceIte]
  refine SplitG.mk (fun h1 => ?_) (fun h1 => ?_)
  · simp (disch := omega) only [go_sem, Nat.reduceEqDiff, Nat.reduceAdd, ↓reduceIte, b0, b1]
    repeat' (first | exact trivial | exact Same.of b1 b1 hx.seq | refine And.intro ?_ ?_)
    refine callW_of (Cells_ok _ _ _ hd') ?_
    rintro r H2 ⟨rfl, rfl⟩
    simp (disch := omega) only [go_sem, Nat.reduceEqDiff, Nat.reduceAdd, ↓reduceIte]
    repeat' (first | exact trivial | exact Same.of b1 b1 hx.seq | refine And.intro ?_ ?_)
    · simp [isT, h1]
    · exact hE
  · simp (disch := omega) only [go_sem, Nat.reduceEqDiff, Nat.reduceAdd, ↓reduceIte]
    exact ⟨by simp [isT, h1], hE⟩

theorem RefTensors_ok (H : AH) (l : List Ten) (v : Value) (h : Tens H v l) : Runs tb 47 [v] H (fun r H' => r = .bool (l.all isT) ∧ Ext H H') := by
  have bd := h.bd
  obtain ⟨p, c, rfl⟩ := h.inv
  refine Runs_fn (fn := Try.f47) [.tmp 2] [0, 2, 3] [] 3000 (by kernel_rfl) rfl (by kernel_rfl) (by kernel_rfl) rfl ?_; simp only [pad, argAt]
  simp (disch := omega) only [go_sem, Nat.reduceEqDiff, Nat.reduceAdd, ↓reduceIte]
  refine Sat_loop 3000 (fun k H' V => ∃ i : Nat, i ≤ l.length ∧ k = l.length - i ∧ (l.take i).all isT = true ∧ V = [.slice p l.length c, .bool false, .int .i64 i] ∧ Ext H H') l.length ⟨0, by omega, by omega, by simp, rfl, Ext.refl _⟩ ?_
  rintro k H' V ⟨i, hi, rfl, hj, rfl, hE⟩ ih
  have h' := Tens.mono hE h
  simp (disch := omega) only [go_sem, Nat.reduceEqDiff, Nat.reduceAdd, ↓reduceIte]
  refine Split.mk (fun h1 => ?_) (fun h1 => ?_)
  · have hi' : i < l.length := by omega
    obtain ⟨u, hu, hui⟩ := ldT h' i hi'
    simp (disch := omega) only [go_sem, Nat.reduceEqDiff, Nat.reduceAdd, ↓reduceIte, ixT h', hu]
    refine callW_of (RefTensor_ok _ _ _ hui) ?_
    rintro r H1 ⟨rfl, hE1⟩
    simp (disch := omega) only [go_sem, Nat.reduceEqDiff, Nat.reduceAdd, ↓reduceIte]
    refine Split.mk (fun h2 => ?_) (fun h2 => ?_)
    · simp (disch := omega) only [go_sem, Nat.reduceEqDiff, Nat.reduceAdd, ↓reduceIte]
      refine ⟨?_, hE.trans hE1⟩
      have : l.all isT = false := by
        rw [List.all_eq_false]
        exact ⟨l[i], List.getElem_mem _, by simp [h2]⟩
      rw [this]
    · simp (disch := omega) only [go_sem, Nat.reduceEqDiff, Nat.reduceAdd, ↓reduceIte]
      refine ih _ _ _ ?_ ⟨i+1, ?_, rfl, ?_, rfl, hE.trans hE1⟩
      · omega
      · omega
      · rw [← List.take_append_getElem hi', List.all_append, hj]
        simpa using h2
  · simp (disch := omega) only [go_sem, Nat.reduceEqDiff, Nat.reduceAdd, ↓reduceIte]
    rw [List.take_of_length_le (by omega)] at hj
    exact ⟨by rw [hj], hE⟩

theorem EqTensor_ok (H : AH) (s t : Ten) (v w : Value) (h : TenV H v s) (k : TenV H w t) : Runs tb 49 [v, w] H (fun r H' => r = .bool (decide (s = t)) ∧ Ext H H') := by
  obtain ⟨vd, vx, rfl, hd, hx⟩ := h
  obtain ⟨wd, wx, rfl, kd, kx⟩ := k
  have hE := Ext.push H [vd, vx]
  have b0 := box0 H vd vx
  have b1 := box1 H vd vx
  generalize hG : H.push [vd, vx] = G at *
  have hE2 := Ext.push G [wd, wx]
  have c0 := box0 G wd wx
  have c1 := box1 G wd wx
  generalize hK : G.push [wd, wx] = K at *
  have b0' := aload_ext hE2 b0
  have b1' := aload_ext hE2 b1
  have hE3 := hE.trans hE2
  refine Runs_fn (fn := Try.f49) [.tmp 4] [0, 1, 2, 3, 4] [] 3000 (by kernel_rfl) rfl (by kernel_rfl) (by kernel_rfl) rfl ?_; simp only [pad, argAt]
  simp (disch := omega) only [go_sem, Nat.reduceEqDiff, Nat.reduceAdd, ↓reduceIte, hG, hK, b0', b1', c0, c1]
  refine callW_of (EqNumbers_ok _ _ _ _ _ (Ints.mono hE3 hd) (Ints.mono hE3 kd)) ?_
  rintro r H1 ⟨rfl, rfl⟩
  simp (disch := omega) only [go_sem, Nat.reduceEqDiff, Nat.reduceAdd, ↓reduceIte]
  refine SplitG.mk (fun h1 => ?_) (fun h1 => ?_)
  · simp (disch := omega) only [go_sem, Nat.reduceEqDiff, Nat.reduceAdd, ↓reduceIte, b0', b1', c0, c1]
    refine callW_of (EqNumbers_ok _ _ _ _ _ (Ints.mono hE3 hx) (Ints.mono hE3 kx)) ?_
    rintro r H2 ⟨rfl, rfl⟩
    simp (disch := omega) only [go_sem, Nat.reduceEqDiff, Nat.reduceAdd, ↓reduceIte]
    refine ⟨?_, hE3⟩
    have h1 : s.1 = t.1 := by simpa using h1
    congr 1
    rw [decide_eq_decide]
    exact ⟨fun e => Prod.ext h1 e, fun e => by rw [e]⟩
  · simp (disch := omega) only [go_sem, Nat.reduceEqDiff, Nat.reduceAdd, ↓reduceIte]
    refine ⟨?_, hE3⟩
    have h1 : ¬ s.1 = t.1 := by simpa using h1
    congr 1; symm; rw [decide_eq_false_iff_not]
    rintro rfl; exact h1 rfl

theorem EqTensors_ok (H : AH) (a b : List Ten) (va vb : Value) (ha : Tens H va a) (hb : Tens H vb b) : Runs tb 50 [va, vb] H (fun r H' => r = .bool (decide (a = b)) ∧ Ext H H') := by
  have bd := ha.bd
  obtain ⟨p, c, rfl⟩ := ha.inv
  obtain ⟨q, d, rfl⟩ := hb.inv
  refine Runs_fn (fn := Try.f50) [.tmp 4] [0, 1, 4, 5] [] 3000 (by kernel_rfl) rfl (by kernel_rfl) (by kernel_rfl) rfl ?_; simp only [pad, argAt]
  simp (disch := omega) only [go_sem, Nat.reduceEqDiff, Nat.reduceAdd, ↓reduceIte]
  refine Split.mk (fun hl => ?_) (fun hl => ?_)
  · simp (disch := omega) only [go_sem, Nat.reduceEqDiff, Nat.reduceAdd, ↓reduceIte]
    refine ⟨?_, Ext.refl _⟩
    congr 1; symm; rw [decide_eq_false_iff_not]; rintro rfl; exact hl rfl
  · simp (disch := omega) only [go_sem, Nat.reduceEqDiff, Nat.reduceAdd, ↓reduceIte]
    refine Sat_loop 3000 (fun k H' V => ∃ i : Nat, i ≤ a.length ∧ k = a.length - i ∧ (∀ j, j < i → a[j]? = b[j]?) ∧ V = [.slice p a.length c, .slice q b.length d, .bool false, .int .i64 i] ∧ Ext H H') a.length ⟨0, by omega, by omega, by omega, rfl, Ext.refl _⟩ ?_
    rintro k H' V ⟨i, hi, rfl, hj, rfl, hE⟩ ih
    have ha' := Tens.mono hE ha
    have hb' := Tens.mono hE hb
    simp (disch := omega) only [go_sem, Nat.reduceEqDiff, Nat.reduceAdd, ↓reduceIte]
    refine Split.mk (fun h1 => ?_) (fun h1 => ?_)
    · have h3 : i < a.length := by omega
      have h4 : i < b.length := by omega
      obtain ⟨u, hu, hui⟩ := ldT ha' i h3
      obtain ⟨w, hw, hwi⟩ := ldT hb' i h4
      simp (disch := omega) only [go_sem, Nat.reduceEqDiff, Nat.reduceAdd, ↓reduceIte, ixT ha', ixT hb', hu, hw]
      refine callW_of (EqTensor_ok _ _ _ _ _ hui hwi) ?_
      rintro r H1 ⟨rfl, hE1⟩
      simp (disch := omega) only [go_sem, Nat.reduceEqDiff, Nat.reduceAdd, ↓reduceIte]
      refine Split.mk (fun h2 => ?_) (fun h2 => ?_)
      · simp (disch := omega) only [go_sem, Nat.reduceEqDiff, Nat.reduceAdd, ↓reduceIte]
        refine ⟨?_, hE.trans hE1⟩
        congr 1; symm; rw [decide_eq_false_iff_not]; rintro rfl
        simp at h2
      · simp (disch := omega) only [go_sem, Nat.reduceEqDiff, Nat.reduceAdd, ↓reduceIte]
        refine ih _ _ _ ?_ ⟨i+1, ?_, rfl, ?_, rfl, hE.trans hE1⟩
        · omega
        · omega
        · intro j hj'
          by_cases e : j < i
          · exact hj j e
          · obtain rfl : j = i := by omega
            rw [List.getElem?_eq_getElem h3, List.getElem?_eq_getElem h4]
            simpa using h2
    · simp (disch := omega) only [go_sem, Nat.reduceEqDiff, Nat.reduceAdd, ↓reduceIte]
      refine ⟨?_, hE⟩
      congr 1; symm; rw [decide_eq_true_eq]
      apply List.ext_getElem?
      intro j
      by_cases e : j < i
      · exact hj j e
      · rw [List.getElem?_eq_none (by omega), List.getElem?_eq_none (by omega)]
end Go.Proofs.K

/- Copies of tensors; all of some tensors. -/
set_option linter.unusedVariables false
set_option maxRecDepth 8000
set_option maxHeartbeats 4000000
set_option linter.unusedSimpArgs false
namespace Go.Proofs.K
open Go Go.Ab

/-- A tensor that was made since. -/
def OwnT (H0 H : AH) (v : Value) (t : Ten) : Prop := ∃ vd vx, v = .agg #[vd, vx] ∧ OwnI H0 H vd t.1 ∧ OwnI H0 H vx t.2
theorem OwnT.ten {H0 H : AH} {v : Value} {t : Ten} (h : OwnT H0 H v t) : TenV H v t :=
  let ⟨vd, vx, e, h1, h2⟩ := h
  ⟨vd, vx, e, h1.ints, h2.ints⟩
theorem OwnI.put {H0 H : AH} {v : Value} {l : List Int} (h : OwnI H0 H v l) {b : Nat} (hb : b < H0.size) (o : Option Blk) : OwnI H0 (H.put b o) v l := Own.put h (Ext.refl _) (fun _ => .inr trivial) o hb
theorem CopyTensor_ok (H : AH) (h0 : H.ro ≤ H.size) (t : Ten) (v : Value) (h : TenV H v t) (hb : t.1.length ≤ 1000000000000 ∧ t.2.length ≤ 1000000000000) : Runs tb 83 [v] H (fun r H' => OwnT H H' r t ∧ Ext H H') := by
  obtain ⟨vd, vx, rfl, hd, hx⟩ := h
  refine Runs_fn (fn := Try.f83) [.cell 2 32] [0, 1, 2, 3] [] 3000 (by kernel_rfl) rfl (by kernel_rfl) (by kernel_rfl) rfl ?_; simp only [pad, argAt]
  obtain ⟨pd, cd, rfl⟩ := hd.inv
  obtain ⟨px, cx, rfl⟩ := hx.inv
  simp (disch := omega) only [go_sem, Nat.reduceEqDiff, Nat.reduceAdd, ↓reduceIte, get_pushB, get_putB, pickB_t, pickB_f, eqB_t, eqB_f, ltB_t, leB_t, AH.size_push, AH.size_put, AH.ro_push, AH.ro_put]
  refine callW_gen ?_
  intro G hG
  have hE : Ext H G := by rw [hG]; exact (((Ext.push _ _).pushed _).pushed _).put (by (try simp (disch := omega) only [get_pushB, get_putB, pickB_t, pickB_f, eqB_t, eqB_f, ltB_t, AH.size_push, AH.size_put, AH.ro_push, AH.ro_put]); omega) (by (try simp (disch := omega) only [get_pushB, get_putB, pickB_t, pickB_f, eqB_t, eqB_f, ltB_t, AH.size_push, AH.size_put, AH.ro_push, AH.ro_put]); omega) _
  have hs : G.size = H.size + 3 := by rw [hG]; (try simp (disch := omega) only [get_pushB, get_putB, pickB_t, pickB_f, eqB_t, eqB_f, ltB_t, AH.size_push, AH.size_put, AH.ro_push, AH.ro_put])
  have g0 : G.get H.size = some [.slice pd t.1.length cd, .slice px t.2.length cx] := by rw [hG]; (try simp (disch := omega) only [get_pushB, get_putB, pickB_t, pickB_f, eqB_t, eqB_f, ltB_t, AH.size_push, AH.size_put, AH.ro_push, AH.ro_put])
  have g1 : G.get (H.size + 1) = some [.slice none 0 0, .slice none 0 0] := by rw [hG]; (try simp (disch := omega) only [get_pushB, get_putB, pickB_t, pickB_f, eqB_t, eqB_f, ltB_t, AH.size_push, AH.size_put, AH.ro_push, AH.ro_put])
  have g2 : G.get (H.size + 1 + 1) = some [.slice pd t.1.length cd, .slice px t.2.length cx] := by rw [hG]; (try simp (disch := omega) only [get_pushB, get_putB, pickB_t, pickB_f, eqB_t, eqB_f, ltB_t, AH.size_push, AH.size_put, AH.ro_push, AH.ro_put])
  clear hG
  have hr := hE.ro
  refine callW_of (CopyNumbers_ok G (by omega) _ _ (Ints.mono hE hd) hb.1) ?_
  rintro r G1 ⟨ho1, hE1⟩
  obtain ⟨p1, c1, rfl⟩ := ho1.ints.inv
  have hr1 := hE1.ro
  have hs1 := hE1.size
  simp (disch := omega) only [go_sem, Nat.reduceEqDiff, Nat.reduceAdd, ↓reduceIte, get_pushB, get_putB, pickB_t, pickB_f, eqB_t, eqB_f, ltB_t, leB_t, AH.size_push, AH.size_put, AH.ro_push, AH.ro_put, hE1.get _ _ g0, hE1.get _ _ g1, hE1.get _ _ g2]
  refine callW_gen ?_
  intro G2 hG2
  have hE2 : Ext H G2 := by rw [hG2]; exact (hE.trans hE1).put (by omega) (by omega) _
  have hs2 : G2.size = G1.size := by rw [hG2]; (try simp (disch := omega) only [get_pushB, get_putB, pickB_t, pickB_f, eqB_t, eqB_f, ltB_t, AH.size_push, AH.size_put, AH.ro_push, AH.ro_put])
  have k1 : G2.get (H.size + 1) = some [.slice none 0 0, .slice none 0 0] := by rw [hG2]; (try simp (disch := omega) only [get_pushB, get_putB, pickB_t, pickB_f, eqB_t, eqB_f, ltB_t, AH.size_push, AH.size_put, AH.ro_push, AH.ro_put]); exact hE1.get _ _ g1
  have k2 : G2.get (H.size + 1 + 1) = some [.slice p1 t.1.length c1, .slice px t.2.length cx] := by rw [hG2]; (try simp (disch := omega) only [get_pushB, get_putB, pickB_t, pickB_f, eqB_t, eqB_f, ltB_t, AH.size_push, AH.size_put, AH.ro_push, AH.ro_put])
  have hr2 := hE2.ro
  have ho1' : OwnI G G2 (.slice p1 t.1.length c1) t.1 := by
    rw [hG2]; exact ho1.put (by omega) _
  clear hG2
  refine callW_of (CopyNumbers_ok G2 (by omega) _ _ (Ints.mono hE2 hx) hb.2) ?_
  rintro r G3 ⟨ho2, hE3⟩
  obtain ⟨p2, c2, rfl⟩ := ho2.ints.inv
  have hr3 := hE3.ro
  have hs3 := hE3.size
  simp (disch := omega) only [go_sem, Nat.reduceEqDiff, Nat.reduceAdd, ↓reduceIte, get_pushB, get_putB, pickB_t, pickB_f, eqB_t, eqB_f, ltB_t, leB_t, AH.size_push, AH.size_put, AH.ro_push, AH.ro_put, hE3.get _ _ k1, hE3.get _ _ k2]
  refine ⟨⟨_, _, rfl, ?_, ?_⟩, ?_⟩
  · exact OwnI.weak (((ho1'.ext hE3).put (by omega) _).put (by omega) _) hE.size hE.ro h0
  · exact OwnI.weak ((ho2.put (by omega) _).put (by omega) _) hE2.size hE2.ro h0
  · exact ((hE2.trans hE3).put (by omega) (by omega) _).put (by omega) (by (try simp (disch := omega) only [get_pushB, get_putB, pickB_t, pickB_f, eqB_t, eqB_f, ltB_t, AH.size_push, AH.size_put, AH.ro_push, AH.ro_put]); omega) _

def cells2 (us : List (Value × Value)) : List Value := us.flatMap fun u => [u.1, u.2]
theorem cells2_get : ∀ (us : List (Value × Value)) (i : Nat) (u : Value × Value), us[i]? = some u → (cells2 us)[i * 2]? = some u.1 ∧ (cells2 us)[i * 2 + 1]? = some u.2
  | [], i, u, h => by simp at h
  | x :: us, 0, u, h => by simp at h; subst h; simp [cells2]
  | x :: us, i + 1, u, h => by
    have := cells2_get us i u (by simpa using h)
    rw [show (i + 1) * 2 = i * 2 + 2 by omega]
    simpa [cells2] using this
theorem cells2_length (us : List (Value × Value)) : (cells2 us).length = us.length * 2 := by
  induction us with
  | nil => rfl
  | cons u us ih => simp [cells2] at ih ⊢; omega
/-- A value of own memory that lies elsewhere than another. -/
structure Apart (H0 H : AH) (m u : Value) (l : List Int) : Prop where
  own : OwnI H0 H u l
  off : ∀ a n k, u = .slice (some a) n k → Off a.block m

theorem CopyTensors_ok (H : AH) (h0 : H.ro ≤ H.size) (l : List Ten) (v : Value) (h : Tens H v l) (hb : l.length ≤ 1000000000000 ∧ ∀ t ∈ l, t.1.length ≤ 1000000000000 ∧ t.2.length ≤ 1000000000000) :
    Runs tb 43 [v] H (fun r H' => Tens H' r l ∧ Ext H H') := by
  have bd := h.bd
  obtain ⟨p, c, rfl⟩ := h.inv
  refine Runs_fn (fn := Try.f43) [.tmp 2] [0, 2, 3, 4] [] 3000 (by kernel_rfl) rfl (by kernel_rfl) (by kernel_rfl) rfl ?_; simp only [pad, argAt]
  simp (disch := omega) only [go_sem, Nat.reduceEqDiff, Nat.reduceAdd, ↓reduceIte]
  refine Sat_loop 3000 (fun k H' V => ∃ (i : Nat) (m : Value) (us : List (Value × Value)), i ≤ l.length ∧ k = l.length - i ∧ us.length = i ∧ Own H H' 2 m i (cells2 us) ∧ (∀ (j : Nat) (u : Value × Value) (t : Ten), us[j]? = some u → l[j]? = some t → Apart H H' m u.1 t.1 ∧ Apart H H' m u.2 t.2) ∧ Ext H H' ∧ V = [.slice p l.length c, .slice none 0 0, m, .int .i64 i]) l.length ⟨0, _, [], by omega, by omega, rfl, Own.nil, (fun j u t h => by simp at h), Ext.refl _, rfl⟩ ?_
  rintro k H' V ⟨i, m, us, hi, rfl, hu, hm, hus, hE, rfl⟩ ih
  have h' := Tens.mono hE h
  have hr := hE.ro
  have hsz := hE.size
  simp (disch := omega) only [go_sem, Nat.reduceEqDiff, Nat.reduceAdd, ↓reduceIte]
  refine Split.mk (fun h1 => ?_) (fun h1 => ?_)
  · have hi' : i < l.length := by omega
    obtain ⟨w, hw, hwi⟩ := ldT h' i hi'
    simp (disch := omega) only [go_sem, Nat.reduceEqDiff, Nat.reduceAdd, ↓reduceIte, ixT h', hw]
    refine callW_of (CopyTensor_ok H' (by omega) _ _ hwi (hb.2 _ (List.getElem_mem _))) ?_
    rintro r G ⟨⟨vd, vx, rfl, hod, hox⟩, hE1⟩
    have hEp := Ext.push G [vd, vx]
    obtain ⟨m', H2, e, ho, hE2, hs2, hr2, hk, hoff⟩ := Own.append_off stT ((hm.ext hE1).ext hEp) h0 ((hE.trans hE1).trans hEp) (x := .slice (some ⟨G.size, 0, none⟩) 1 2) (m := 1) rfl (afirst_block (by rw [AH.get_push, if_pos rfl]) rfl) rfl (by omega)
    simp (disch := omega) only [go_sem, Nat.reduceEqDiff, Nat.reduceAdd, ↓reduceIte, bslice_1' stT, e]
    refine ih _ _ _ ?_ ⟨i + 1, m', us ++ [(vd, vx)], ?_, rfl, ?_, ?_, ?_, hE2, rfl⟩
    · omega
    · omega
    · simp [hu]
    · have : cells2 (us ++ [(vd, vx)]) = cells2 us ++ [vd, vx] := by simp [cells2]
      rw [this]; exact ho
    · intro j u t hj ht
      have old : ∀ (z : Value) (x : List Int), Apart H H' m z x → Apart H H2 m' z x := fun z x hz => by
        have o2 : OwnI H (G.push [vd, vx]) z x := (hz.own.ext hE1).ext hEp
        refine ⟨Own.keep o2 hr2 hk hz.off, fun a n k e => hoff _ ?_ (hz.off a n k e)⟩
        exact (Own.blk o2 a n k e).2
      have new : ∀ (z : Value) (x : List Int), OwnI H' G z x → Apart H H2 m' z x := fun z x hz => by
        have o2 : OwnI H' (G.push [vd, vx]) z x := hz.ext hEp
        have ho2 : ∀ a n k, z = .slice (some a) n k → Off a.block m := fun a n k e => Own.off hm (Own.blk o2 a n k e).1
        refine ⟨OwnI.weak (Own.keep o2 hr2 hk ho2) hsz hr h0, fun a n k e => hoff _ ?_ (ho2 a n k e)⟩
        exact (Own.blk o2 a n k e).2
      by_cases hji : j < i
      · rw [List.getElem?_append_left (by omega)] at hj
        obtain ⟨a1, a2⟩ := hus j u t hj ht
        exact ⟨old _ _ a1, old _ _ a2⟩
      · have hji' : j = i := by
          have := (List.getElem?_eq_some_iff.1 hj).1
          simp at this; omega
        subst hji'
        rw [List.getElem?_append_right (by omega), hu, Nat.sub_self] at hj
        simp only [List.getElem?_cons_zero, Option.some.injEq] at hj
        subst hj
        rw [List.getElem?_eq_getElem hi'] at ht
        cases ht
        exact ⟨new _ _ hod, new _ _ hox⟩
  · simp (disch := omega) only [go_sem, Nat.reduceEqDiff, Nat.reduceAdd, ↓reduceIte]
    have hl : i = l.length := by omega
    subst hl
    refine ⟨Own.sl hm rfl fun j t ht => ?_, hE⟩
    have hjl := (List.getElem?_eq_some_iff.1 ht).1
    have hju : us[j]? = some (us[j]'(by omega)) := List.getElem?_eq_getElem _
    obtain ⟨a1, a2⟩ := hus j _ t hju ht
    obtain ⟨c1, c2⟩ := cells2_get us j _ hju
    exact ⟨_, _, by simpa using c1, c2, a1.own.ints, a2.own.ints⟩
end Go.Proofs.K

/- Dims of tensors; all of some tensors. -/
set_option linter.unusedVariables false
set_option maxRecDepth 8000
set_option maxHeartbeats 4000000
set_option linter.unusedSimpArgs false
namespace Go.Proofs.K
open Go Go.Ab

theorem faT {H : AH} {a : Option Addr} {n c : Nat} {l : List Ten} (h : Tens H (.slice a n c) l) (z : Int) (hz : 0 ≤ z ∧ z < l.length) : afield tb 32 (elp a c z 0) 0 = some (elp a c z 0) ∧ afield tb 32 (elp a c z 0) 1 = some (elp a c z 1) := by
  obtain ⟨b, off, rfl, rfl, hn⟩ := h.some_of (z := z.toNat) (by omega)
  simp only [elp]
  rw [fa32_0, fa32_1]
  simp
theorem ldT2 {H : AH} {a : Option Addr} {n c : Nat} {l : List Ten} (h : Tens H (.slice a n c) l) (i : Nat) (hi : i < l.length) : ∃ vd vx, aload tb 23 (elp a c i 0) H.get = some vd ∧ aload tb 23 (elp a c i 1) H.get = some vx ∧ Ints H vd l[i].1 ∧ Ints H vx l[i].2 := by
  obtain ⟨x, hx, vd, vx, e1, e2, h1, h2⟩ := h.at_ i hi
  rw [List.getElem?_eq_getElem hi] at hx
  cases hx
  exact ⟨vd, vx, h.ld1 ty23 rfl i 0 (by simpa using e1), h.ld1 ty23 rfl i 1 (by simpa using e2), h1, h2⟩

theorem DimsOf_ok (H : AH) (h0 : H.ro ≤ H.size) (l : List Ten) (v : Value) (h : Tens H v l) (hb : l.length ≤ 1000000000000) :
    Runs tb 28 [v] H (fun r H' => Intss H' r (l.map (·.1)) ∧ Ext H H') := by
  have bd := h.bd
  obtain ⟨p, c, rfl⟩ := h.inv
  refine Runs_fn (fn := Try.f28) [.tmp 2] [0, 2, 3, 4] [] 3000 (by kernel_rfl) rfl (by kernel_rfl) (by kernel_rfl) rfl ?_; simp only [pad, argAt]
  simp (disch := omega) only [go_sem, Nat.reduceEqDiff, Nat.reduceAdd, ↓reduceIte]
  refine Sat_loop 3000 (fun k H' V => ∃ (i : Nat) (m : Value) (us : List Value), i ≤ l.length ∧ k = l.length - i ∧ us.length = i ∧ Own H H' 1 m i us ∧ (∀ (j : Nat) (u : Value) (t : Ten), us[j]? = some u → l[j]? = some t → Ints H u t.1) ∧ Ext H H' ∧ V = [.slice p l.length c, .slice none 0 0, m, .int .i64 i]) l.length ⟨0, _, [], by omega, by omega, rfl, Own.nil, (fun j u t h => by simp at h), Ext.refl _, rfl⟩ ?_
  rintro k H' V ⟨i, m, us, hi, rfl, hu, hm, hus, hE, rfl⟩ ih
  have h' := Tens.mono hE h
  simp (disch := omega) only [go_sem, Nat.reduceEqDiff, Nat.reduceAdd, ↓reduceIte]
  refine Split.mk (fun h1 => ?_) (fun h1 => ?_)
  · have hi' : i < l.length := by omega
    obtain ⟨vd, vx, e0, e1, hd, hx⟩ := ldT2 h i hi'
    obtain ⟨pd, cd, rfl⟩ := hd.inv
    have f0 := (faT h i (by omega)).1
    have hEp := Ext.push H' [.slice pd l[i].1.length cd]
    obtain ⟨m', H2, e, ho, hE2⟩ := Own.append stII (hm.ext hEp) h0 (hE.trans hEp) (x := .slice (some ⟨H'.size, 0, none⟩) 1 1) (m := 1) rfl (afirst_block (by rw [AH.get_push, if_pos rfl]) rfl) rfl (by omega)
    simp (disch := omega) only [go_sem, Nat.reduceEqDiff, Nat.reduceAdd, ↓reduceIte, ixT h', f0, aload_ext hE e0, bslice_1 stII (.slice pd l[i].1.length cd) rfl, e]
    refine ih _ _ _ ?_ ⟨i + 1, m', us ++ [.slice pd l[i].1.length cd], ?_, rfl, ?_, ho, ?_, hE2, rfl⟩
    · omega
    · omega
    · simp [hu]
    · intro j u t hj ht
      by_cases hji : j < i
      · rw [List.getElem?_append_left (by omega)] at hj
        exact hus j u t hj ht
      · have hji' : j = i := by
          have := (List.getElem?_eq_some_iff.1 hj).1
          simp at this; omega
        subst hji'
        rw [List.getElem?_append_right (by omega), hu, Nat.sub_self] at hj
        simp only [List.getElem?_cons_zero, Option.some.injEq] at hj
        subst hj
        rw [List.getElem?_eq_getElem hi'] at ht
        cases ht
        exact hd
  · simp (disch := omega) only [go_sem, Nat.reduceEqDiff, Nat.reduceAdd, ↓reduceIte]
    have hl : i = l.length := by omega
    subst hl
    refine ⟨Own.sl hm (by simp) fun j t ht => ?_, hE⟩
    have hjl := (List.getElem?_eq_some_iff.1 ht).1
    simp at hjl
    have hju : us[j]? = some (us[j]'(by omega)) := List.getElem?_eq_getElem _
    have htl : l[j]? = some l[j] := List.getElem?_eq_getElem hjl
    rw [List.getElem?_map, htl] at ht
    simp at ht
    subst ht
    exact ⟨_, by simp [hju], Ints.mono hE (hus j _ _ hju htl)⟩

theorem AllBad_ok (H : AH) (t : Ten) (v : Value) (h : TenV H v t) : Runs tb 55 [v] H (fun r H' => r = .bool (!(isT t)) ∧ Ext H H') := by
  obtain ⟨vd, vx, rfl, hd, hx⟩ := h
  have hE := Ext.push H [vd, vx]
  have hT : TenV (H.push [vd, vx]) (.agg #[vd, vx]) t := ⟨_, _, rfl, Ints.mono hE hd, Ints.mono hE hx⟩
  refine Runs_fn (fn := Try.f55) [.tmp 2] [0, 1, 2] [] 3000 (by kernel_rfl) rfl (by kernel_rfl) (by kernel_rfl) rfl ?_; simp only [pad, argAt]
  simp (disch := omega) only [go_sem, Nat.reduceEqDiff, Nat.reduceAdd, ↓reduceIte, get_pushB, get_putB, pickB_t, pickB_f, eqB_t, eqB_f, ltB_t, leB_t, AH.size_push, AH.size_put, AH.ro_push, AH.ro_put]
  refine callW_of (Is_ok _ _ _ hT) ?_
  rintro r H1 ⟨rfl, hE1⟩
  simp (disch := omega) only [go_sem, Nat.reduceEqDiff, Nat.reduceAdd, ↓reduceIte]
  exact hE.trans hE1

theorem IndexFuncT_ok (H : AH) (l : List Ten) (v : Value) (h : Tens H v l) (g : FuncId) (caps : Array Value) (p : Ten → Bool) (hp : ∀ G, Ext H G → ∀ x u, TenV G u x → Runs tb g (u :: caps.toList) G (fun r H' => r = .bool (p x) ∧ Ext G H')) :
    Runs tb 98 [v, .func (.func g) #[] caps] H (fun r H' => r = .int .i64 (firstI (fun i => p (l.getD i ([], []))) l.length) ∧ Ext H H') := by
  have bd := h.bd
  obtain ⟨a, c, rfl⟩ := h.inv
  refine Runs_fn (fn := Try.f98) [.tmp 4] [0, 1, 4, 5, 7, 8] [] 3000 (by kernel_rfl) rfl (by kernel_rfl) (by kernel_rfl) rfl ?_; simp only [pad, argAt]
  simp (disch := omega) only [go_sem, Nat.reduceEqDiff, Nat.reduceAdd, ↓reduceIte]
  refine Sat_loop 3000 (fun k H' V => ∃ (i : Nat) (x : Value), i ≤ l.length ∧ k = l.length - i ∧ (∀ j, j < i → p (l.getD j ([], [])) = false) ∧ V = [.slice a l.length c, .func (.func g) #[] caps, .int .i64 0, x, .int .i64 l.length, .int .i64 i] ∧ Ext H H') l.length ⟨0, _, by omega, by omega, by omega, rfl, Ext.refl _⟩ ?_
  rintro k H' V ⟨i, x, hi, rfl, hj, rfl, hE⟩ ih
  have h' := Tens.mono hE h
  simp (disch := omega) only [go_sem, Nat.reduceEqDiff, Nat.reduceAdd, ↓reduceIte]
  refine Split.mk (fun h1 => ?_) (fun h1 => ?_)
  · have hi' : i < l.length := by omega
    obtain ⟨u, hu, hui⟩ := ldT h' i hi'
    have hg : l.getD i ([], []) = l[i] := by rw [List.getD_eq_getElem?_getD, List.getElem?_eq_getElem hi']; rfl
    simp (disch := omega) only [go_sem, Nat.reduceEqDiff, Nat.reduceAdd, ↓reduceIte, ixT h', hu]
    refine callW_of (hp _ hE _ _ hui) ?_
    rintro r H1 ⟨rfl, hE1⟩
    rw [← hg]
    simp (disch := omega) only [go_sem, Nat.reduceEqDiff, Nat.reduceAdd, ↓reduceIte]
    refine Split.mk (fun h2 => ?_) (fun h2 => ?_)
    · simp (disch := omega) only [go_sem, Nat.reduceEqDiff, Nat.reduceAdd, ↓reduceIte]
      refine ⟨?_, hE.trans hE1⟩
      rw [firstI_at (by omega) h2 hj]
    · simp (disch := omega) only [go_sem, Nat.reduceEqDiff, Nat.reduceAdd, ↓reduceIte]
      refine ih _ _ _ ?_ ⟨i+1, .int .i64 i, ?_, rfl, ?_, rfl, hE.trans hE1⟩
      · omega
      · omega
      · intro j hj'
        by_cases e : j < i
        · exact hj j e
        · obtain rfl : j = i := by omega
          simpa using h2
  · simp (disch := omega) only [go_sem, Nat.reduceEqDiff, Nat.reduceAdd, ↓reduceIte]
    refine ⟨?_, hE⟩
    rw [firstI_none fun j hj' => hj j (by omega)]
theorem ContainsFuncT_ok (H : AH) (l : List Ten) (v : Value) (h : Tens H v l) (g : FuncId) (caps : Array Value) (p : Ten → Bool) (hp : ∀ G, Ext H G → ∀ x u, TenV G u x → Runs tb g (u :: caps.toList) G (fun r H' => r = .bool (p x) ∧ Ext G H')) :
    Runs tb 54 [v, .func (.func g) #[] caps] H (fun r H' => r = .bool (l.any p) ∧ Ext H H') := by
  refine Runs_fn (fn := Try.f54) [.tmp 4] [0, 1, 4] [] 3000 (by kernel_rfl) rfl (by kernel_rfl) (by kernel_rfl) rfl ?_; simp only [pad, argAt]
  simp (disch := omega) only [go_sem, Nat.reduceEqDiff, Nat.reduceAdd, ↓reduceIte]
  refine callW_of (IndexFuncT_ok H l v h g caps p hp) ?_
  rintro r H1 ⟨rfl, hE⟩
  simp (disch := omega) only [go_sem, Nat.reduceEqDiff, Nat.reduceAdd, ↓reduceIte]
  refine ⟨?_, hE⟩
  congr 1
  rw [Bool.eq_iff_iff, decide_eq_true_eq, firstI_ge, List.any_eq_true]
  constructor
  · rintro ⟨i, hi, hp⟩
    rw [List.getD_eq_getElem?_getD, List.getElem?_eq_getElem hi] at hp
    exact ⟨l[i], List.getElem_mem _, hp⟩
  · rintro ⟨x, hx, hp⟩
    obtain ⟨i, hi, rfl⟩ := List.mem_iff_getElem.1 hx
    exact ⟨i, hi, by rw [List.getD_eq_getElem?_getD, List.getElem?_eq_getElem hi]; exact hp⟩
theorem All_ok (H : AH) (l : List Ten) (v : Value) (h : Tens H v l) : Runs tb 35 [v] H (fun r H' => r = .bool (l.all isT) ∧ Ext H H') := by
  refine Runs_fn (fn := Try.f35) [.tmp 2] [0, 2] [] 3000 (by kernel_rfl) rfl (by kernel_rfl) (by kernel_rfl) rfl ?_; simp only [pad, argAt]
  simp (disch := omega) only [go_sem, Nat.reduceEqDiff, Nat.reduceAdd, ↓reduceIte]
  refine callW_of (ContainsFuncT_ok H l v h _ #[] (fun t => !(isT t)) fun G _ x u hx => AllBad_ok G x u hx) ?_
  rintro r H1 ⟨rfl, hE⟩
  simp (disch := omega) only [go_sem, Nat.reduceEqDiff, Nat.reduceAdd, ↓reduceIte]
  refine ⟨?_, hE⟩
  rw [List.not_any_eq_all_not]
  simp
end Go.Proofs.K

/- New tensors. -/
set_option linter.unusedVariables false
set_option maxRecDepth 8000
set_option maxHeartbeats 4000000
set_option linter.unusedSimpArgs false
namespace Go.Proofs.K
open Go Go.Ab
theorem prodL_pos {d : List Int} (h : mayP d = true) : 1 ≤ prodL d ∧ prodL d ≤ 64 := by
  refine ⟨?_, (mayP_spec h).2.2.2⟩
  rcases mayP_cases h with ⟨a, rfl, ha⟩ | ⟨a, b, rfl, ha, hb⟩ | ⟨a, b, c, rfl, ha, hb, hc, hp⟩
  · rw [prodL_1 _ ha]; exact ha.1
  · rw [prodL_2 _ _ ha hb]
    have := Int.mul_le_mul (a := 1) (b := 1) (c := a) (d := b) ha.1 hb.1 (by omega) (by omega)
    omega
  · rw [prodL_3 _ _ _ ha hb hc]
    have h1 := Int.mul_le_mul (a := 1) (b := 1) (c := a) (d := b) ha.1 hb.1 (by omega) (by omega)
    have h2 := Int.mul_le_mul (a := 1) (b := 1) (c := a * b) (d := c) (by omega) hc.1 (by omega) (by omega)
    omega
theorem azeros_int (n : Nat) : azeros [.int .i64 0] n = (List.replicate n (0 : Int)).map (.int .i64) := by
  induction n with
  | zero => rfl
  | succ n ih => rw [azeros, ih]; rfl
theorem abT (p q : Option Addr) (n m c e : Nat) : abuild tb 32 [(0, .slice p n c), (1, .slice q m e)] = some (.agg #[.slice p n c, .slice q m e]) := by kernel_rfl
theorem mkI (H : AH) (z : Int) (h0 : 0 ≤ z) (hb : z ≤ 281474976710) : amake tb 23 (.int .i64 z) (.int .i64 z) H.size = some (.slice (some ⟨H.size, 0, none⟩) z.toNat 1, (List.replicate z.toNat (0 : Int)).map (.int .i64)) := by
  obtain ⟨zc, hz, e⟩ := amake_ok stI h0 hb (H := H)
  rw [ty3] at hz
  cases hz
  rw [e, ← azeros_int]
  rfl
theorem OwnI.fresh (H : AH) (h0 : H.ro ≤ H.size) (l : List Int) (hb : l.length ≤ 281474976710656) : OwnI H (H.push (l.map (.int .i64))) (.slice (some ⟨H.size, 0, none⟩) l.length 1) l :=
  Own.mk H.size l.length _ (Nat.le_refl _) h0 rfl (by rw [AH.get_push, if_pos rfl]) (by simp) hb
/-- A tensor that was made since, in two blocks. -/
def OwnT2 (H0 H : AH) (v : Value) (t : Ten) : Prop := ∃ bd bx, v = .agg #[.slice (some ⟨bd, 0, none⟩) t.1.length 1, .slice (some ⟨bx, 0, none⟩) t.2.length 1] ∧ OwnI H0 H (.slice (some ⟨bd, 0, none⟩) t.1.length 1) t.1 ∧ OwnI H0 H (.slice (some ⟨bx, 0, none⟩) t.2.length 1) t.2 ∧ bd ≠ bx
theorem New_ok (H : AH) (h0 : H.ro ≤ H.size) (d : List Int) (v : Value) (h : Ints H v d) (hm : mayP d = true) : Runs tb 63 [v] H (fun r H' => OwnT2 H H' r (d, List.replicate (prodL d).toNat 0) ∧ Ext H H') := by
  obtain ⟨m1, m2, _, _⟩ := mayP_spec hm
  have hp := prodL_pos hm
  refine Runs_fn (fn := Try.f63) [.cell 2 32] [0, 2] [] 3000 (by kernel_rfl) rfl (by kernel_rfl) (by kernel_rfl) rfl ?_; simp only [pad, argAt]
  simp (disch := omega) only [go_sem, Nat.reduceEqDiff, Nat.reduceAdd, ↓reduceIte, get_pushB, get_putB, pickB_t, pickB_f, eqB_t, eqB_f, ltB_t, leB_t, AH.size_push, AH.size_put, AH.ro_push, AH.ro_put]
  refine callW_gen ?_
  intro G hG
  have hE : Ext H G := by rw [hG]; exact Ext.push _ _
  have hs : G.size = H.size + 1 := by rw [hG]; rfl
  have g0 : G.get H.size = some [.slice none 0 0, .slice none 0 0] := by rw [hG]; (try simp (disch := omega) only [get_pushB, get_putB, pickB_t, pickB_f, eqB_t, eqB_f, ltB_t, AH.size_push, AH.size_put, AH.ro_push, AH.ro_put])
  have hr := hE.ro
  clear hG
  refine callW_of (Clone_ok G (by omega) d v (Ints.mono hE h) (by omega)) ?_
  rintro r G1 ⟨ho1, hE1⟩
  obtain ⟨b, rfl⟩ := ho1.block (by rintro rfl; simp at m1)
  simp (disch := omega) only [go_sem, Nat.reduceEqDiff, Nat.reduceAdd, ↓reduceIte, get_pushB, get_putB, pickB_t, pickB_f, eqB_t, eqB_f, ltB_t, leB_t, AH.size_push, AH.size_put, AH.ro_push, AH.ro_put]
  refine callW_of (Product_ok G1 d v (Ints.mono (hE.trans hE1) h)) ?_
  rintro r G1' ⟨rfl, rfl⟩
  have hr1 := hE1.ro
  have hs1 := hE1.size
  have hb := Own.blk ho1 _ _ _ rfl
  simp only at hb
  simp (disch := omega) only [go_sem, Nat.reduceEqDiff, Nat.reduceAdd, ↓reduceIte, get_pushB, get_putB, pickB_t, pickB_f, eqB_t, eqB_f, ltB_t, leB_t, AH.size_push, AH.size_put, AH.ro_push, AH.ro_put, mkI _ (prodL d) (by omega) (by omega), abT, hE1.get _ _ g0]
  have hn : (List.replicate (prodL d).toNat (0 : Int)).length = (prodL d).toNat := by simp
  have hf := OwnI.fresh G1' (by omega) (List.replicate (prodL d).toNat (0 : Int)) (by rw [hn]; omega)
  rw [hn] at hf
  refine ⟨⟨b, G1'.size, by simp only [hn], ?_, ?_, by omega⟩, ?_⟩
  · exact OwnI.weak ((ho1.ext (Ext.push _ _)).put (by omega) _) hE.size hE.ro h0
  · simp only [hn]
    exact OwnI.weak (hf.put (by omega) _) (by omega) (by omega) h0
  · exact ((hE.trans hE1).pushed _).put (Nat.le_refl _) (by simp only [AH.size_push]; omega) _

theorem fill_step (N i : Nat) (n : Int) (h : i < N) : (List.replicate i n ++ List.replicate (N - i) 0).set i n = List.replicate (i + 1) n ++ List.replicate (N - (i + 1)) 0 := by
  rw [List.set_append_right _ _ (by simp)]
  obtain ⟨k, hk⟩ : ∃ k, N - i = k + 1 := ⟨N - i - 1, by omega⟩
  rw [hk, show N - (i + 1) = k by omega]
  simp only [List.length_replicate, Nat.sub_self, List.replicate_succ, List.set_cons_zero]
  rw [← List.replicate_succ, List.replicate_succ', List.append_assoc]
  rfl
theorem Fill_ok (H : AH) (h0 : H.ro ≤ H.size) (d : List Int) (n : Int) (v : Value) (h : Ints H v d) (hm : mayP d = true) : Runs tb 37 [v, .int .i64 n] H (fun r H' => ∃ u, r = .tuple #[u, .int .i64 0] ∧ OwnT2 H H' u (d, List.replicate (prodL d).toNat n) ∧ Ext H H') := by
  have hp := prodL_pos hm
  refine Runs_fn (fn := Try.f37) [.cell 4 32, .tmp 5] [0, 1, 4, 5, 6, 7, 16, 17] [] 3000 (by kernel_rfl) rfl (by kernel_rfl) (by kernel_rfl) rfl ?_; simp only [pad, argAt]
  simp (disch := omega) only [go_sem, Nat.reduceEqDiff, Nat.reduceAdd, ↓reduceIte, get_pushB, get_putB, pickB_t, pickB_f, eqB_t, eqB_f, ltB_t, leB_t, AH.size_push, AH.size_put, AH.ro_push, AH.ro_put]
  refine callW_gen ?_
  intro G hG
  have hE : Ext H G := by rw [hG]; exact Ext.push _ _
  have hs : G.size = H.size + 1 := by rw [hG]; rfl
  have g0 : G.get H.size = some [.slice none 0 0, .slice none 0 0] := by rw [hG]; (try simp (disch := omega) only [get_pushB, get_putB, pickB_t, pickB_f, eqB_t, eqB_f, ltB_t, AH.size_push, AH.size_put, AH.ro_push, AH.ro_put])
  have hr := hE.ro
  clear hG
  refine callW_of (May_ok G d v (Ints.mono hE h)) ?_
  rintro r G' ⟨rfl, rfl⟩
  simp (disch := omega) only [go_sem, Nat.reduceEqDiff, Nat.reduceAdd, ↓reduceIte, get_pushB, get_putB, pickB_t, pickB_f, eqB_t, eqB_f, ltB_t, leB_t, AH.size_push, AH.size_put, AH.ro_push, AH.ro_put, hm]
  refine callW_of (New_ok G' (by omega) d v (Ints.mono hE h) hm) ?_
  rintro r G1 ⟨⟨bd, bx, rfl, hod, hox, hne⟩, hE1⟩
  have hr1 := hE1.ro
  have hs1 := hE1.size
  have hbd := Own.blk hod _ _ _ rfl
  have hbx := Own.blk hox _ _ _ rfl
  simp only at hbd hbx
  simp (disch := omega) only [go_sem, Nat.reduceEqDiff, Nat.reduceAdd, ↓reduceIte, get_pushB, get_putB, pickB_t, pickB_f, eqB_t, eqB_f, ltB_t, leB_t, AH.size_push, AH.size_put, AH.ro_push, AH.ro_put, hE1.get _ _ g0]
  generalize hN : (prodL d).toNat = N at *
  simp only [List.length_replicate] at hod hox ⊢
  refine Sat_gen ?_
  intro G2 hG2
  have hE2 : Ext G1 G2 := by rw [hG2]; exact (Ext.push _ _).put (Nat.le_refl _) (by simp only [AH.size_push]; omega) _
  have hs2 : G2.size = G1.size + 1 := by rw [hG2]; rfl
  have k0 : G2.get H.size = some [.slice none 0 0, .slice none 0 0] := hE2.get _ _ (hE1.get _ _ g0)
  have k1 : G2.get G1.size = some [.slice (some ⟨bd, 0, none⟩) d.length 1, .slice (some ⟨bx, 0, none⟩) N 1] := by rw [hG2]; (try simp (disch := omega) only [get_pushB, get_putB, pickB_t, pickB_f, eqB_t, eqB_f, ltB_t, AH.size_push, AH.size_put, AH.ro_push, AH.ro_put])
  have hr2 := hE2.ro
  clear hG2
  refine Sat_loop 3000 (fun k H' V => ∃ (i : Nat) (x : Value), i ≤ N ∧ k = N - i ∧ Fr bx G2 H' ∧ OwnI G' H' (.slice (some ⟨bx, 0, none⟩) N 1) (List.replicate i n ++ List.replicate (N - i) 0) ∧ V = [v, .int .i64 n, .pointer (some ⟨H.size, 0, none⟩), .int .i64 0, .pointer (some ⟨G1.size, 0, none⟩), x, .int .i64 N, .int .i64 i]) N ⟨0, _, by omega, by omega, Fr.refl _ _, by simpa using hox.ext hE2, rfl⟩ ?_
  rintro k H' V ⟨i, x, hi, rfl, hF, ho, rfl⟩ ih
  have j0 := hF.get _ _ (by omega) k0
  have j1 := hF.get _ _ (by omega) k1
  have hrF := hF.ro
  have hsF := hF.size
  have hlen : (List.replicate i n ++ List.replicate (N - i) (0 : Int)).length = N := by simp; omega
  simp (disch := omega) only [go_sem, Nat.reduceEqDiff, Nat.reduceAdd, ↓reduceIte, get_pushB, get_putB, pickB_t, pickB_f, eqB_t, eqB_f, ltB_t, leB_t, AH.size_push, AH.size_put, AH.ro_push, AH.ro_put]
  refine Split.mk (fun h1 => ?_) (fun h1 => ?_)
  · obtain ⟨hst, ho2, hb1, hb2⟩ := ho.set i n (by omega)
    simp (disch := omega) only [go_sem, Nat.reduceEqDiff, Nat.reduceAdd, ↓reduceIte, get_pushB, get_putB, pickB_t, pickB_f, eqB_t, eqB_f, ltB_t, leB_t, AH.size_push, AH.size_put, AH.ro_push, AH.ro_put, j0, j1, ixI ho.ints, hst]
    refine ih _ _ _ ?_ ⟨i + 1, .int .i64 i, ?_, rfl, hF.trans (Fr.put bx _ hb1 _), ?_, rfl⟩
    · omega
    · omega
    · rw [← fill_step N i n (by omega)]; exact ho2
  · have hiN : i = N := by omega
    subst hiN
    have hod2 : OwnI G' H' (.slice (some ⟨bd, 0, none⟩) d.length 1) d := Own.fr (hod.ext hE2) hF (fun a n k e => by cases e; exact hne)
    have ho3 : OwnI G' H' (.slice (some ⟨bx, 0, none⟩) i 1) (List.replicate i n) := by simpa using ho
    simp (disch := omega) only [go_sem, Nat.reduceEqDiff, Nat.reduceAdd, ↓reduceIte, get_pushB, get_putB, pickB_t, pickB_f, eqB_t, eqB_f, ltB_t, leB_t, AH.size_push, AH.size_put, AH.ro_push, AH.ro_put, j0, j1]
    refine ⟨_, rfl, ⟨bd, bx, ?_, ?_, ?_, hne⟩, ?_⟩
    · simp
    · exact OwnI.weak (hod2.put (by omega) _) hE.size hE.ro h0
    · simp only [List.length_replicate]
      exact OwnI.weak (ho3.put (by omega) _) hE.size hE.ro h0
    · exact (hF.ext ((hE.trans hE1).trans hE2) (by omega)).put (Nat.le_refl _) (by omega) _
end Go.Proofs.K

/- What is written over; how much there is. -/
set_option linter.unusedVariables false
set_option maxRecDepth 8000
set_option maxHeartbeats 4000000
set_option linter.unusedSimpArgs false
namespace Go.Proofs.K
open Go Go.Ab

/-- All but what lies where a value does, as it was. -/
structure Rest (v : Value) (H H' : AH) : Prop where
  size : H.size ≤ H'.size
  ro : H'.ro = H.ro
  get : ∀ c x, Off c v → H.get c = some x → H'.get c = some x
theorem Rest.refl (v : Value) (H : AH) : Rest v H H := ⟨Nat.le_refl _, rfl, fun _ _ _ h => h⟩
theorem Rest.ext {v : Value} {H0 H H' : AH} (h : Rest v H H') (hE : Ext H0 H) (hv : ∀ a n k, v = .slice (some a) n k → H0.size ≤ a.block) : Ext H0 H' :=
  ⟨Nat.le_trans hE.size h.size, h.ro.trans hE.ro, fun c x e => h.get c x (fun a n k ev ec => by have := hv a n k ev; have := AH.lt_of_get e; omega) (hE.get c x e)⟩

theorem Spoil_ok (H0 H : AH) (l : List Int) (v : Value) (h : OwnI H0 H v l) : Runs tb 51 [v] H (fun r H' => r = .tuple #[] ∧ Rest v H H') := by
  have bd := h.ints.bd
  cases hl : l with
  | nil =>
    subst hl
    obtain ⟨p, c, rfl⟩ := h.ints.inv
    refine Runs_fn (fn := Try.f51) [] [0, 2] [] 3000 (by kernel_rfl) rfl (by kernel_rfl) (by kernel_rfl) rfl ?_; simp only [pad, argAt]
    simp (disch := omega) only [go_sem, Nat.reduceEqDiff, Nat.reduceAdd, ↓reduceIte]
    refine Sat_loop 3000 (fun k H' V => V = [.slice p 0 c, .int .i64 0] ∧ H' = H) 0 ⟨rfl, rfl⟩ ?_
    rintro k H' V ⟨rfl, rfl⟩ ih
    simp (disch := omega) only [go_sem, Nat.reduceEqDiff, Nat.reduceAdd, ↓reduceIte]
    exact Rest.refl _ _
  | cons x xs =>
    obtain ⟨b, rfl⟩ := h.block (by rw [hl]; simp)
    refine Runs_fn (fn := Try.f51) [] [0, 2] [] 3000 (by kernel_rfl) rfl (by kernel_rfl) (by kernel_rfl) rfl ?_; simp only [pad, argAt]
    simp (disch := omega) only [go_sem, Nat.reduceEqDiff, Nat.reduceAdd, ↓reduceIte]
    refine Sat_loop 3000 (fun k H' V => ∃ (i : Nat) (m : List Int), i ≤ l.length ∧ k = l.length - i ∧ m.length = l.length ∧ Fr b H H' ∧ OwnI H0 H' (.slice (some ⟨b, 0, none⟩) l.length 1) m ∧ V = [.slice (some ⟨b, 0, none⟩) l.length 1, .int .i64 i]) l.length ⟨0, l, by omega, by omega, rfl, Fr.refl _ _, h, rfl⟩ ?_
    rintro k H' V ⟨i, m, hi, rfl, hm, hF, ho, rfl⟩ ih
    simp (disch := omega) only [go_sem, Nat.reduceEqDiff, Nat.reduceAdd, ↓reduceIte]
    refine Split.mk (fun h1 => ?_) (fun h1 => ?_)
    · obtain ⟨hst, ho2, hb1, hb2⟩ := ho.set i (-99) (by omega)
      simp (disch := omega) only [go_sem, Nat.reduceEqDiff, Nat.reduceAdd, ↓reduceIte, ixI ho.ints, hst]
      refine ih _ _ _ ?_ ⟨i + 1, m.set i (-99), ?_, rfl, ?_, hF.trans (Fr.put b _ hb1 _), ho2, rfl⟩
      · omega
      · omega
      · simp [hm]
    · simp (disch := omega) only [go_sem, Nat.reduceEqDiff, Nat.reduceAdd, ↓reduceIte]
      exact ⟨hF.size, hF.ro, fun c x hc e => hF.get c x (fun e2 => hc _ _ _ rfl e2.symm) e⟩

theorem Lists_ok (H : AH) (l : List (List Int)) (v : Value) (h : Intss H v l) : Runs tb 33 [v] H (fun r H' => ∃ w : Int, r = .int .i64 w ∧ 0 ≤ w ∧ w ≤ 1000000000000000 ∧ (w < 1048576 → l.length ≤ w ∧ ∀ x ∈ l, x.length ≤ w) ∧ H' = H) := by
  have bd := h.bd
  obtain ⟨p, c, rfl⟩ := h.inv
  refine Runs_fn (fn := Try.f33) [.tmp 2] [0, 2, 3, 4] [] 3000 (by kernel_rfl) rfl (by kernel_rfl) (by kernel_rfl) rfl ?_; simp only [pad, argAt]
  simp (disch := omega) only [go_sem, Nat.reduceEqDiff, Nat.reduceAdd, ↓reduceIte]
  refine Sat_loop 3000 (fun k H' V => ∃ (i : Nat) (w : Int), i ≤ l.length ∧ k = l.length - i ∧ (l.length : Int) ≤ w ∧ w ≤ 600000000000000 ∧ (∀ x ∈ l.take i, x.length ≤ w) ∧ V = [.slice p l.length c, .int .i64 0, .int .i64 w, .int .i64 i] ∧ H' = H) l.length ⟨0, _, by omega, by omega, Int.le_refl _, by omega, by simp, rfl, rfl⟩ ?_
  rintro k H' V ⟨i, w, hi, rfl, hw, hw2, hx, rfl, rfl⟩ ih
  simp (disch := omega) only [go_sem, Nat.reduceEqDiff, Nat.reduceAdd, ↓reduceIte]
  refine SplitG.mk (fun h1 => ?_) (fun h1 => ?_)
  · simp (disch := omega) only [go_sem, Nat.reduceEqDiff, Nat.reduceAdd, ↓reduceIte]
    refine Split.mk (fun h2 => ?_) (fun h2 => ?_)
    · have hi' : i < l.length := by omega
      obtain ⟨u, hu, hui⟩ := ldII h i hi'
      have bu := hui.bd
      obtain ⟨q, d, rfl⟩ := hui.inv
      simp (disch := omega) only [go_sem, Nat.reduceEqDiff, Nat.reduceAdd, ↓reduceIte, ixII h, hu]
      refine ih _ _ _ ?_ ⟨i + 1, w + l[i].length, ?_, rfl, ?_, ?_, ?_, rfl, rfl⟩
      · omega
      · omega
      · omega
      · omega
      · intro x hx'
        rw [← List.take_append_getElem hi'] at hx'
        rcases List.mem_append.1 hx' with h3 | h3
        · have := hx x h3; omega
        · simp at h3; subst h3; omega
    · simp (disch := omega) only [go_sem, Nat.reduceEqDiff, Nat.reduceAdd, ↓reduceIte]
      exact ⟨w, rfl, by omega, by omega, fun h => absurd h h2, trivial⟩
  · simp (disch := omega) only [go_sem, Nat.reduceEqDiff, Nat.reduceAdd, ↓reduceIte]
    refine ⟨w, rfl, by omega, by omega, fun h => ⟨hw, ?_⟩, trivial⟩
    rw [List.take_of_length_le (by omega)] at hx
    exact hx

theorem TWeight_ok (H : AH) (l : List Ten) (v : Value) (h : Tens H v l) : Runs tb 53 [v] H (fun r H' => ∃ w : Int, r = .int .i64 w ∧ 0 ≤ w ∧ w ≤ 1000000000000000 ∧ (w < 1048576 → l.length ≤ w ∧ ∀ t ∈ l, t.1.length ≤ w ∧ (t.2.length : Int) / 8 ≤ w) ∧ H' = H) := by
  have bd := h.bd
  obtain ⟨p, c, rfl⟩ := h.inv
  refine Runs_fn (fn := Try.f53) [.tmp 2] [0, 2, 3, 4] [] 3000 (by kernel_rfl) rfl (by kernel_rfl) (by kernel_rfl) rfl ?_; simp only [pad, argAt]
  simp (disch := omega) only [go_sem, Nat.reduceEqDiff, Nat.reduceAdd, ↓reduceIte]
  refine Sat_loop 3000 (fun k H' V => ∃ (i : Nat) (w : Int), i ≤ l.length ∧ k = l.length - i ∧ (l.length : Int) ≤ w ∧ w ≤ 400000000000000 ∧ (∀ t ∈ l.take i, t.1.length ≤ w ∧ (t.2.length : Int) / 8 ≤ w) ∧ V = [.slice p l.length c, .int .i64 0, .int .i64 w, .int .i64 i] ∧ H' = H) l.length ⟨0, _, by omega, by omega, Int.le_refl _, by omega, by simp, rfl, rfl⟩ ?_
  rintro k H' V ⟨i, w, hi, rfl, hw, hw2, hx, rfl, rfl⟩ ih
  simp (disch := omega) only [go_sem, Nat.reduceEqDiff, Nat.reduceAdd, ↓reduceIte]
  refine SplitG.mk (fun h1 => ?_) (fun h1 => ?_)
  · simp (disch := omega) only [go_sem, Nat.reduceEqDiff, Nat.reduceAdd, ↓reduceIte]
    refine Split.mk (fun h2 => ?_) (fun h2 => ?_)
    · have hi' : i < l.length := by omega
      obtain ⟨vd, vx, e0, e1, hd, hx2⟩ := ldT2 h i hi'
      have b1 := hd.bd
      have b2 := hx2.bd
      obtain ⟨q, d, rfl⟩ := hd.inv
      obtain ⟨q2, d2, rfl⟩ := hx2.inv
      obtain ⟨f0, f1⟩ := faT h i (by omega)
      have hq : IntKind.i64.wrap ((l[i].2.length : Int).tdiv 8) = (l[i].2.length : Int) / 8 := IntWalk.i64_quo _ _ ⟨by omega, by omega, by omega⟩
      simp (disch := omega) only [go_sem, Nat.reduceEqDiff, Nat.reduceAdd, ↓reduceIte, ixT h, f0, f1, e0, e1, hq]
      refine ⟨by omega, ?_⟩
      refine ih _ _ _ ?_ ⟨i + 1, w + l[i].1.length + (l[i].2.length : Int) / 8, ?_, rfl, ?_, ?_, ?_, rfl, rfl⟩
      · omega
      · omega
      · omega
      · omega
      · intro t ht
        rw [← List.take_append_getElem hi'] at ht
        rcases List.mem_append.1 ht with h3 | h3
        · have := hx t h3; omega
        · simp at h3; subst h3; omega
    · simp (disch := omega) only [go_sem, Nat.reduceEqDiff, Nat.reduceAdd, ↓reduceIte]
      exact ⟨w, rfl, by omega, by omega, fun h => absurd h h2, trivial⟩
  · simp (disch := omega) only [go_sem, Nat.reduceEqDiff, Nat.reduceAdd, ↓reduceIte]
    refine ⟨w, rfl, by omega, by omega, fun h => ⟨hw, ?_⟩, trivial⟩
    rw [List.take_of_length_le (by omega)] at hx
    exact hx
end Go.Proofs.K

/- More than is played? -/
set_option linter.unusedVariables false
set_option maxRecDepth 8000
set_option maxHeartbeats 4000000
set_option linter.unusedSimpArgs false
namespace Go.Proofs.K
open Go Go.Ab

structure Ask where
  T : List Ten
  N : List Int
  D : List (List Int)
  K : List Int
structure AskV (H : AH) (vt vn vd vk : Value) (p : Ask) : Prop where
  t : Tens H vt p.T
  n : Ints H vn p.N
  d : Intss H vd p.D
  k : Ints H vk p.K
theorem AskV.mono {H H' : AH} (hE : Ext H H') {vt vn vd vk : Value} {p : Ask} (h : AskV H vt vn vd vk p) : AskV H' vt vn vd vk p := ⟨Tens.mono hE h.t, Ints.mono hE h.n, Intss.mono hE h.d, Ints.mono hE h.k⟩

theorem Heavy2_ok (H : AH) (l : List Ten) (m : List Int) (vt vn : Value) (ht : Tens H vt l) (hn : Ints H vn m) : Runs tb 34 [.agg #[vt, vn]] H (fun r H' => ∃ b, r = .bool b ∧ (b = false → (l.length ≤ 500 ∧ ∀ t ∈ l, t.1.length ≤ 500 ∧ t.2.length ≤ 5000) ∧ m.length ≤ 500) ∧ Ext H H') := by
  have bn := hn.bd
  obtain ⟨pt, ct, rfl⟩ := ht.inv
  obtain ⟨pn, cn, rfl⟩ := hn.inv
  refine Runs_fn (fn := Try.f34) [.tmp 2] [0, 1, 2] [(1, [(4, 2)])] 3000 (by kernel_rfl) rfl (by kernel_rfl) (by kernel_rfl) rfl ?_; simp only [pad, argAt]
  simp (disch := omega) only [go_sem, Nat.reduceEqDiff, Nat.reduceAdd, ↓reduceIte, get_pushB, get_putB, pickB_t, pickB_f, eqB_t, eqB_f, ltB_t, leB_t, AH.size_push, AH.size_put, AH.ro_push, AH.ro_put]
  refine callW_gen ?_
  intro G hG
  have hE : Ext H G := by rw [hG]; exact Ext.push _ _
  have g0 : G.get H.size = some [.slice pt l.length ct, .slice pn m.length cn] := by rw [hG]; (try simp (disch := omega) only [get_pushB, get_putB, pickB_t, pickB_f, eqB_t, eqB_f, ltB_t, AH.size_push, AH.size_put, AH.ro_push, AH.ro_put])
  refine callW_of (TWeight_ok G l _ (Tens.mono hE ht)) ?_
  rintro r G' ⟨w, rfl, w0, w1, w2, rfl⟩
  have b1 : aload tb 23 (.pointer (some ⟨H.size, 1, none⟩)) G'.get = some (.slice pn m.length cn) := by simp (disch := omega) only [go_sem, Nat.reduceEqDiff, Nat.reduceAdd, ↓reduceIte, get_pushB, get_putB, pickB_t, pickB_f, eqB_t, eqB_f, ltB_t, leB_t, AH.size_push, AH.size_put, AH.ro_push, AH.ro_put, g0]
  simp (disch := omega) only [go_sem, Nat.reduceEqDiff, Nat.reduceAdd, ↓reduceIte, get_pushB, get_putB, pickB_t, pickB_f, eqB_t, eqB_f, ltB_t, leB_t, AH.size_push, AH.size_put, AH.ro_push, AH.ro_put, g0, ← hG]
  refine ⟨⟨⟨Same.of b1 b1 hn.seq, Same.of b1 b1 hn.seq⟩, trivial⟩, _, rfl, fun h => ?_, hE⟩
  have h : ¬ 500 < w + m.length := by simpa using h
  obtain ⟨a1, a2⟩ := w2 (by omega)
  refine ⟨⟨by omega, fun t ht => ?_⟩, by omega⟩
  have := a2 t ht
  omega
theorem Heavy_ok (H : AH) (p : Ask) (vt vn vd vk : Value) (h : AskV H vt vn vd vk p) : Runs tb 23 [.agg #[vt, vn, vd, vk]] H (fun r H' => ∃ b, r = .bool b ∧ (b = false → (p.T.length ≤ 500 ∧ ∀ t ∈ p.T, t.1.length ≤ 500 ∧ t.2.length ≤ 5000) ∧ p.N.length ≤ 500 ∧ (p.D.length ≤ 300 ∧ ∀ x ∈ p.D, x.length ≤ 300) ∧ p.K.length ≤ 300) ∧ Ext H H') := by
  have bk := h.k.bd
  obtain ⟨pt, ct, rfl⟩ := h.t.inv
  obtain ⟨pn, cn, rfl⟩ := h.n.inv
  obtain ⟨pd, cd, rfl⟩ := h.d.inv
  obtain ⟨pk, ck, rfl⟩ := h.k.inv
  refine Runs_fn (fn := Try.f23) [.tmp 2] [0, 1, 2] [(1, [(4, 2)])] 3000 (by kernel_rfl) rfl (by kernel_rfl) (by kernel_rfl) rfl ?_; simp only [pad, argAt]
  simp (disch := omega) only [go_sem, Nat.reduceEqDiff, Nat.reduceAdd, ↓reduceIte, get_pushB, get_putB, pickB_t, pickB_f, eqB_t, eqB_f, ltB_t, leB_t, AH.size_push, AH.size_put, AH.ro_push, AH.ro_put]
  refine callW_gen ?_
  intro G hG
  have hE : Ext H G := by rw [hG]; exact Ext.push _ _
  have g0 : G.get H.size = some [.slice pt p.T.length ct, .slice pn p.N.length cn, .slice pd p.D.length cd, .slice pk p.K.length ck] := by rw [hG]; (try simp (disch := omega) only [get_pushB, get_putB, pickB_t, pickB_f, eqB_t, eqB_f, ltB_t, AH.size_push, AH.size_put, AH.ro_push, AH.ro_put])
  refine callW_of (Lists_ok G p.D _ (Intss.mono hE h.d)) ?_
  rintro r G' ⟨w, rfl, w0, w1, w2, rfl⟩
  have b1 : aload tb 23 (.pointer (some ⟨H.size, 3, none⟩)) G'.get = some (.slice pk p.K.length ck) := by simp (disch := omega) only [go_sem, Nat.reduceEqDiff, Nat.reduceAdd, ↓reduceIte, get_pushB, get_putB, pickB_t, pickB_f, eqB_t, eqB_f, ltB_t, leB_t, AH.size_push, AH.size_put, AH.ro_push, AH.ro_put, g0]
  have b0 : aload tb 25 (.pointer (some ⟨H.size, 0, none⟩)) G'.get = some (.agg #[.slice pt p.T.length ct, .slice pn p.N.length cn]) := by
    rw [lp25, g0]; rfl
  simp (disch := omega) only [go_sem, Nat.reduceEqDiff, Nat.reduceAdd, ↓reduceIte, get_pushB, get_putB, pickB_t, pickB_f, eqB_t, eqB_f, ltB_t, leB_t, AH.size_push, AH.size_put, AH.ro_push, AH.ro_put, g0, ← hG]
  refine ⟨⟨⟨Same.of b1 b1 h.k.seq, Same.of b1 b1 h.k.seq⟩, trivial⟩, ?_⟩
  refine SplitG.mk (fun h1 => ?_) (fun h1 => ?_)
  · simp (disch := omega) only [go_sem, Nat.reduceEqDiff, Nat.reduceAdd, ↓reduceIte, get_pushB, get_putB, pickB_t, pickB_f, eqB_t, eqB_f, ltB_t, leB_t, AH.size_push, AH.size_put, AH.ro_push, AH.ro_put, g0]
    exact ⟨true, rfl, (fun h => by cases h), hE⟩
  · simp (disch := omega) only [go_sem, Nat.reduceEqDiff, Nat.reduceAdd, ↓reduceIte, get_pushB, get_putB, pickB_t, pickB_f, eqB_t, eqB_f, ltB_t, leB_t, AH.size_push, AH.size_put, AH.ro_push, AH.ro_put, b0, g0]
    refine callW_of (Heavy2_ok G' p.T p.N _ _ (Tens.mono hE h.t) (Ints.mono hE h.n)) ?_
    rintro r G2 ⟨b, rfl, hb, hE2⟩
    simp (disch := omega) only [go_sem, Nat.reduceEqDiff, Nat.reduceAdd, ↓reduceIte, get_pushB, get_putB, pickB_t, pickB_f, eqB_t, eqB_f, ltB_t, leB_t, AH.size_push, AH.size_put, AH.ro_push, AH.ro_put, g0]
    refine ⟨b, rfl, fun e => ?_, hE.trans hE2⟩
    obtain ⟨c1, c2⟩ := hb e
    obtain ⟨a1, a2⟩ := w2 (by omega)
    exact ⟨c1, c2, ⟨by omega, fun x hx => by have := a2 x hx; omega⟩, by omega⟩
end Go.Proofs.K

/- A node's value: what Do does ahead of the kinds. -/
set_option linter.unusedVariables false
set_option maxRecDepth 8000
set_option maxHeartbeats 4000000
set_option linter.unusedSimpArgs false
namespace Go.Proofs.K
open Go Go.Ab

/-- A tensor that was made since, its lists apart. -/
def OwnTD (H0 H : AH) (v : Value) (t : Ten) : Prop := ∃ vd vx, v = .agg #[vd, vx] ∧ OwnI H0 H vd t.1 ∧ OwnI H0 H vx t.2 ∧ (∀ a n k, vd = .slice (some a) n k → Off a.block vx)
theorem OwnT2.td {H0 H : AH} {v : Value} {t : Ten} (h : OwnT2 H0 H v t) : OwnTD H0 H v t := by
  obtain ⟨bd, bx, rfl, h1, h2, hne⟩ := h
  exact ⟨_, _, rfl, h1, h2, fun a n k e b m j e2 => by cases e; cases e2; exact fun e => hne e.symm⟩
theorem OwnTD.none (H0 H : AH) : OwnTD H0 H (.agg #[.slice none 0 0, .slice none 0 0]) ([], []) := ⟨_, _, rfl, OwnI.nil _ _, OwnI.nil _ _, fun a n k e => by cases e⟩
def DoPost (H : AH) (t : Ten) (e : Int) (r : Value) (H' : AH) : Prop := ∃ u, r = .tuple #[u, .int .i64 e] ∧ OwnTD H H' u t ∧ Ext H H'
/-- May a value be asked? -/
def doOk (k n : Int) (d : List Int) (l : List Ten) : Bool := !(decide (k = 1)) && !(decide (k = 2)) && l.all isT && formP k n d (l.map (·.1))

theorem OwnTD.out {H0 G H : AH} {u : Value} {t : Ten} (h : OwnTD G H u t) (hE : Ext H0 G) (h0 : H0.ro ≤ H0.size) {b : Nat} (hb : b < G.size) (o : Option Blk) : OwnTD H0 (H.put b o) u t := by
  obtain ⟨vd, vx, e, h1, h2, h3⟩ := h
  exact ⟨vd, vx, e, OwnI.weak (h1.put hb o) hE.size hE.ro h0, OwnI.weak (h2.put hb o) hE.size hE.ro h0, h3⟩
theorem ldT0 {H : AH} {a : Option Addr} {n c : Nat} {l : List Ten} (h : Tens H (.slice a n c) l) (hi : 0 < l.length) : ∃ v, aload tb 32 (elp a c 0 0) H.get = some v ∧ TenV H v (l.getD 0 ([], [])) := by
  have e : l.getD 0 ([], []) = l[0] := by simp [List.getD_eq_getElem?_getD, hi]
  rw [e]; exact ldT h 0 hi
theorem ldT1 {H : AH} {a : Option Addr} {n c : Nat} {l : List Ten} (h : Tens H (.slice a n c) l) (hi : 1 < l.length) : ∃ v, aload tb 32 (elp a c 1 0) H.get = some v ∧ TenV H v (l.getD 1 ([], [])) := by
  have e : l.getD 1 ([], []) = l[1] := by simp [List.getD_eq_getElem?_getD, hi]
  rw [e]; exact ldT h 1 hi
theorem abT0 : abuild tb 32 [] = some (.agg #[.slice none 0 0, .slice none 0 0]) := by kernel_rfl
theorem Do_ok (H : AH) (h0 : H.ro ≤ H.size) (k n : Int) (d : List Int) (l : List Ten) (vd vl : Value) (hd : Ints H vd d) (hl : Tens H vl l) (hb : l.length ≤ 1000000000000) (t : Ten) (e : Int) (hbad : doOk k n d l = false → t = ([], []) ∧ e = 1)
    (hfill : doOk k n d l = true → k = 3 → t = (d, List.replicate (prodL d).toNat n) ∧ e = 0)
    (hop2 : doOk k n d l = true → k ≠ 3 → l.length = 2 → ∀ G u w, Ext H G → TenV G u (l.getD 0 ([], [])) → TenV G w (l.getD 1 ([], [])) → Runs tb 38 [.int .i64 k, .int .i64 n, u, w] G (DoPost G t e))
    (hop1 : doOk k n d l = true → k ≠ 3 → l.length = 1 → ∀ G u, Ext H G → TenV G u (l.getD 0 ([], [])) → Runs tb 39 [.int .i64 k, .int .i64 n, vd, u] G (DoPost G t e)) :
    Runs tb 25 [.int .i64 k, .int .i64 n, vd, vl] H (DoPost H t e) := by
  obtain ⟨pl, cl, rfl⟩ := hl.inv
  refine Runs_fn (fn := Try.f25) [.cell 8 32, .tmp 9] [0, 1, 2, 3, 8, 9, 10, 12, 13, 14, 15] [] 3000 (by kernel_rfl) rfl (by kernel_rfl) (by kernel_rfl) rfl ?_; simp only [pad, argAt]
  simp (disch := omega) only [go_sem, Nat.reduceEqDiff, Nat.reduceAdd, ↓reduceIte, get_pushB, get_putB, pickB_t, pickB_f, eqB_t, eqB_f, ltB_t, leB_t, AH.size_push, AH.size_put, AH.ro_push, AH.ro_put]
  refine Sat_gen ?_
  intro G hG
  have hE0 : Ext H G := by rw [hG]; exact Ext.push _ _
  have hs0 : G.size = H.size + 1 := by rw [hG]; rfl
  have g0 : G.get H.size = some [.slice none 0 0, .slice none 0 0] := by rw [hG]; (try simp (disch := omega) only [get_pushB, get_putB, pickB_t, pickB_f, eqB_t, eqB_f, ltB_t, AH.size_push, AH.size_put, AH.ro_push, AH.ro_put])
  have hr0 := hE0.ro
  clear hG
  refine Sat_loop 3000 (fun z H' V => ∃ (i : Nat) (m x : Value) (us : List Value), i ≤ l.length ∧ z = l.length - i ∧ us.length = i ∧ Own G H' 1 m i us ∧ (∀ (j : Nat) (u : Value) (t : Ten), us[j]? = some u → l[j]? = some t → Ints H u t.1) ∧ Ext G H' ∧ V = [.int .i64 k, .int .i64 n, vd, .slice pl l.length cl, .pointer (some ⟨H.size, 0, none⟩), .int .i64 0, m, x, .slice pl l.length cl, .int .i64 l.length, .int .i64 i]) l.length ⟨0, _, _, [], by omega, by omega, rfl, Own.nil, (fun j u t h => by simp at h), Ext.refl _, rfl⟩ ?_
  rintro z H' V ⟨i, m, x, us, hi, rfl, hu, hm, hus, hE, rfl⟩ ih
  have hEH := hE0.trans hE
  have h' := Tens.mono hEH hl
  have hrE := hE.ro
  have hsE := hE.size
  simp (disch := omega) only [go_sem, Nat.reduceEqDiff, Nat.reduceAdd, ↓reduceIte]
  refine Split.mk (fun h1 => ?_) (fun h1 => ?_)
  · have hi' : i < l.length := by omega
    obtain ⟨w, hw, dv, xv, rfl, hdl, hxl⟩ := ldT hl i hi'
    have hw := aload_ext hEH hw
    obtain ⟨pd, cd, rfl⟩ := hdl.inv
    have hX : Ext H' ((H'.push [.slice none 0 0, .slice none 0 0]).put H'.size (some [.slice pd l[i].1.length cd, xv])) := (Ext.push _ _).put (Nat.le_refl _) (by simp only [AH.size_push]; omega) _
    have hX2 := hX.pushed [.slice pd l[i].1.length cd]
    obtain ⟨m', H2, e, ho, hE2⟩ := Own.append stII (hm.ext hX2) (by omega) (hE.trans hX2) (x := .slice (some ⟨H'.size + 1, 0, none⟩) 1 1) (m := 1) rfl (afirst_block (ys := [.slice pd l[i].1.length cd]) (by (try simp (disch := omega) only [get_pushB, get_putB, pickB_t, pickB_f, eqB_t, eqB_f, ltB_t, AH.size_push, AH.size_put, AH.ro_push, AH.ro_put])) rfl) rfl (by omega)
    simp (disch := omega) only [go_sem, Nat.reduceEqDiff, Nat.reduceAdd, ↓reduceIte, get_pushB, get_putB, pickB_t, pickB_f, eqB_t, eqB_f, ltB_t, leB_t, AH.size_push, AH.size_put, AH.ro_push, AH.ro_put, ixT h', hw, bslice_1 stII (.slice pd l[i].1.length cd) rfl, e]
    refine ih _ _ _ ?_ ⟨i + 1, m', _, us ++ [.slice pd l[i].1.length cd], ?_, rfl, ?_, ho, ?_, hE2, rfl⟩
    · omega
    · omega
    · simp [hu]
    · intro j u t hj ht
      by_cases hji : j < i
      · rw [List.getElem?_append_left (by omega)] at hj
        exact hus j u t hj ht
      · have hji' : j = i := by
          have := (List.getElem?_eq_some_iff.1 hj).1
          simp at this; omega
        subst hji'
        rw [List.getElem?_append_right (by omega), hu, Nat.sub_self] at hj
        simp only [List.getElem?_cons_zero, Option.some.injEq] at hj
        subst hj
        rw [List.getElem?_eq_getElem hi'] at ht
        cases ht
        exact hdl
  · clear ih
    have hil : i = l.length := by omega
    subst hil
    have hall : Intss H' m (l.map (·.1)) := Own.sl hm (by simp) fun j t ht => by
      have hjl := (List.getElem?_eq_some_iff.1 ht).1
      simp at hjl
      have hju : us[j]? = some (us[j]'(by omega)) := List.getElem?_eq_getElem _
      have htl : l[j]? = some l[j] := List.getElem?_eq_getElem hjl
      rw [List.getElem?_map, htl] at ht
      simp at ht
      subst ht
      exact ⟨_, by simp [hju], Ints.mono hEH (hus j _ _ hju htl)⟩
    have j0 := hE.get _ _ g0
    have hlt : H.size < H'.size := by omega
    simp (disch := omega) only [go_sem, Nat.reduceEqDiff, Nat.reduceAdd, ↓reduceIte]
    refine SplitG.mk (fun h2 => ?_) (fun h2 => ?_)
    · obtain ⟨rfl, rfl⟩ := hbad (by simp [doOk, h2])
      simp (disch := omega) only [go_sem, Nat.reduceEqDiff, Nat.reduceAdd, ↓reduceIte, get_pushB, get_putB, pickB_t, pickB_f, eqB_t, eqB_f, ltB_t, leB_t, AH.size_push, AH.size_put, AH.ro_push, AH.ro_put, j0, abT0]
      exact ⟨_, rfl, OwnTD.none _ _, hEH.put (Nat.le_refl _) hlt _⟩
    · simp (disch := omega) only [go_sem, Nat.reduceEqDiff, Nat.reduceAdd, ↓reduceIte]
      refine SplitG.mk (fun h3 => ?_) (fun h3 => ?_)
      · obtain ⟨rfl, rfl⟩ := hbad (by simp [doOk, h3])
        simp (disch := omega) only [go_sem, Nat.reduceEqDiff, Nat.reduceAdd, ↓reduceIte, get_pushB, get_putB, pickB_t, pickB_f, eqB_t, eqB_f, ltB_t, leB_t, AH.size_push, AH.size_put, AH.ro_push, AH.ro_put, j0, abT0]
        exact ⟨_, rfl, OwnTD.none _ _, hEH.put (Nat.le_refl _) hlt _⟩
      · simp (disch := omega) only [go_sem, Nat.reduceEqDiff, Nat.reduceAdd, ↓reduceIte]
        refine callW_of (All_ok H' l _ h') ?_
        rintro r G2 ⟨rfl, hE2⟩
        have hs2 := hE2.size
        have hr2 := hE2.ro
        have k0 := hE2.get _ _ j0
        have hE02 := hEH.trans hE2
        have hall2 := Intss.mono hE2 hall
        simp (disch := omega) only [go_sem, Nat.reduceEqDiff, Nat.reduceAdd, ↓reduceIte]
        refine SplitG.mk (fun h4 => ?_) (fun h4 => ?_)
        · have h4 : l.all isT = true := by simpa using h4
          simp (disch := omega) only [go_sem, Nat.reduceEqDiff, Nat.reduceAdd, ↓reduceIte]
          refine callW_of (form_ok G2 k n d _ vd _ (Ints.mono hE02 hd) hall2) ?_
          rintro r G3 ⟨rfl, rfl⟩
          simp (disch := omega) only [go_sem, Nat.reduceEqDiff, Nat.reduceAdd, ↓reduceIte]
          refine Split.mk (fun h5 => ?_) (fun h5 => ?_)
          · obtain ⟨rfl, rfl⟩ := hbad (by simp [doOk, h5])
            simp (disch := omega) only [go_sem, Nat.reduceEqDiff, Nat.reduceAdd, ↓reduceIte, get_pushB, get_putB, pickB_t, pickB_f, eqB_t, eqB_f, ltB_t, leB_t, AH.size_push, AH.size_put, AH.ro_push, AH.ro_put, k0, abT0]
            exact ⟨_, rfl, OwnTD.none _ _, hE02.put (Nat.le_refl _) (by omega) _⟩
          · have hok : doOk k n d l = true := by simp [doOk, h2, h3, h4]; simpa using h5
            have hTl := Tens.mono hE02 hl
            have hform : formP k n d (l.map (·.1)) = true := by simpa using h5
            have hmany := (formP_spec hform).2.1
            rw [List.length_map] at hmany
            have h03 : G3.ro ≤ G3.size := by omega
            simp (disch := omega) only [go_sem, Nat.reduceEqDiff, Nat.reduceAdd, ↓reduceIte]
            refine Split.mk (fun h6 => ?_) (fun h6 => ?_)
            · subst h6
              have hm : mayP d = true := by simpa [namedP] using (formP_spec hform).2.2.2.2
              obtain ⟨rfl, rfl⟩ := hfill hok rfl
              simp (disch := omega) only [go_sem, Nat.reduceEqDiff, Nat.reduceAdd, ↓reduceIte]
              refine callW_of (Fill_ok G3 h03 d n vd (Ints.mono hE02 hd) hm) ?_
              rintro r G4 ⟨u, rfl, hot, hE4⟩
              have hot := hot.td
              obtain ⟨vu, wu, rfl, _⟩ := id hot
              have q0 := hE4.get _ _ k0
              have hr4 := hE4.ro
              have hs4 := hE4.size
              simp (disch := omega) only [go_sem, Nat.reduceEqDiff, Nat.reduceAdd, ↓reduceIte, get_pushB, get_putB, pickB_t, pickB_f, eqB_t, eqB_f, ltB_t, leB_t, AH.size_push, AH.size_put, AH.ro_push, AH.ro_put, q0]
              exact ⟨_, rfl, hot.out hE02 h0 (by omega) _, (hE02.trans hE4).put (Nat.le_refl _) (by omega) _⟩
            · simp (disch := omega) only [go_sem, Nat.reduceEqDiff, Nat.reduceAdd, ↓reduceIte]
              refine Split.mk (fun h7 => ?_) (fun h7 => ?_)
              · obtain ⟨u0, hu0, ht0⟩ := ldT0 hTl (by omega)
                obtain ⟨u1, hu1, ht1⟩ := ldT1 hTl (by omega)
                simp (disch := omega) only [go_sem, Nat.reduceEqDiff, Nat.reduceAdd, ↓reduceIte, ixT hTl, hu0, hu1]
                refine callW_of (hop2 hok h6 (by omega) G3 u0 u1 hE02 ht0 ht1) ?_
                rintro r G4 ⟨u, rfl, hot, hE4⟩
                obtain ⟨vu, wu, rfl, _⟩ := id hot
                have q0 := hE4.get _ _ k0
                have hr4 := hE4.ro
                have hs4 := hE4.size
                simp (disch := omega) only [go_sem, Nat.reduceEqDiff, Nat.reduceAdd, ↓reduceIte, get_pushB, get_putB, pickB_t, pickB_f, eqB_t, eqB_f, ltB_t, leB_t, AH.size_push, AH.size_put, AH.ro_push, AH.ro_put, q0]
                exact ⟨_, rfl, hot.out hE02 h0 (by omega) _, (hE02.trans hE4).put (Nat.le_refl _) (by omega) _⟩
              · have hlen : l.length = 1 := by
                  unfold manyP at hmany
                  split at hmany
                  · omega
                  · split at hmany <;> omega
                obtain ⟨u0, hu0, ht0⟩ := ldT0 hTl (by omega)
                simp (disch := omega) only [go_sem, Nat.reduceEqDiff, Nat.reduceAdd, ↓reduceIte, ixT hTl, hu0]
                refine callW_of (hop1 hok h6 hlen G3 u0 hE02 ht0) ?_
                rintro r G4 ⟨u, rfl, hot, hE4⟩
                obtain ⟨vu, wu, rfl, _⟩ := id hot
                have q0 := hE4.get _ _ k0
                have hr4 := hE4.ro
                have hs4 := hE4.size
                simp (disch := omega) only [go_sem, Nat.reduceEqDiff, Nat.reduceAdd, ↓reduceIte, get_pushB, get_putB, pickB_t, pickB_f, eqB_t, eqB_f, ltB_t, leB_t, AH.size_push, AH.size_put, AH.ro_push, AH.ro_put, q0]
                exact ⟨_, rfl, hot.out hE02 h0 (by omega) _, (hE02.trans hE4).put (Nat.le_refl _) (by omega) _⟩
        · have h4 : l.all isT = false := by simpa using h4
          obtain ⟨rfl, rfl⟩ := hbad (by simp [doOk, h4])
          simp (disch := omega) only [go_sem, Nat.reduceEqDiff, Nat.reduceAdd, ↓reduceIte, get_pushB, get_putB, pickB_t, pickB_f, eqB_t, eqB_f, ltB_t, leB_t, AH.size_push, AH.size_put, AH.ro_push, AH.ro_put, k0, abT0]
          exact ⟨_, rfl, OwnTD.none _ _, hE02.put (Nat.le_refl _) (by omega) _⟩
end Go.Proofs.K
