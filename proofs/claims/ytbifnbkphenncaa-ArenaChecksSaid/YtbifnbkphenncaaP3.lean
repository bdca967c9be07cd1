/- Parts of a proof about this program: contracts of its functions. -/
import Derived.KernelRfl
import Derived.Test.YtbifnbkphenncaaChecked
import Derived.Sort.Defs
import Derived.Sort.LotD5
import Derived.Sort.Walk7
import Derived.Laws.Bits64b
import Derived.Laws.MathBits
import Derived.Test.YtbifnbkphenncaaP2
/- Plain functions: what the program's and the document's functions compute. -/
set_option linter.unusedVariables false
namespace Go.Ab

abbrev w64 (x : Int) : Int := IntKind.i64.wrap x
def prodL (d : List Int) : Int := d.foldl (fun n x => w64 (n * x)) 1
def okDim (n : Int) : Bool := decide (1 ≤ n) && decide (n ≤ 8)
def mayP (d : List Int) : Bool := decide (1 ≤ d.length) && decide (d.length ≤ 3) && d.all okDim && decide (prodL d ≤ 64)
/-- The first place, or -1. -/
def firstI (p : Nat → Bool) (n : Nat) : Int := match (List.range n).find? p with
  | some i => i
  | none => -1
theorem firstI_at {p : Nat → Bool} {n i : Nat} (hi : i < n) (hp : p i = true) (hn : ∀ j, j < i → p j = false) : firstI p n = i := by
  have : (List.range n).find? p = some i := by
    rw [List.find?_range_eq_some]
    exact ⟨hp, by simpa using hi, fun j hj => by simp [hn j hj]⟩
  simp [firstI, this]
theorem firstI_none {p : Nat → Bool} {n : Nat} (hn : ∀ j, j < n → p j = false) : firstI p n = -1 := by
  have : (List.range n).find? p = none := by
    rw [List.find?_range_eq_none]
    intro j hj; simp [hn j hj]
  simp [firstI, this]
theorem firstI_ge (p : Nat → Bool) (n : Nat) : (0 ≤ firstI p n) ↔ ∃ i, i < n ∧ p i = true := by
  constructor
  · intro h
    unfold firstI at h
    split at h
    · rename_i i hi
      rw [List.find?_range_eq_some] at hi
      exact ⟨i, by simpa using hi.2.1, hi.1⟩
    · omega
  · rintro ⟨i, hi, hp⟩
    unfold firstI
    split
    · omega
    · rename_i hf
      rw [List.find?_range_eq_none] at hf
      have := hf i hi
      simp [hp] at this
theorem gi_eq {l : List Int} {i : Nat} (h : i < l.length) : gi l i = l[i] := by simp [gi, List.getD_eq_getElem?_getD, h]
theorem foldl_take_succ {α β : Type} (f : β → α → β) (b : β) (l : List α) (i : Nat) (h : i < l.length) : (l.take (i + 1)).foldl f b = f ((l.take i).foldl f b) l[i] := by
  have : l.take (i + 1) = l.take i ++ [l[i]] := by rw [List.take_append_getElem]
  rw [this, List.foldl_append]
  rfl
theorem all_any {α : Type} (l : List α) (q : α → Bool) (p : Nat → Bool) (hp : ∀ i (h : i < l.length), p i = !(q l[i])) : (∃ i, i < l.length ∧ p i = true) ↔ l.all q = false := by
  rw [List.all_eq_false]
  constructor
  · rintro ⟨i, hi, h⟩
    exact ⟨l[i], List.getElem_mem _, by rw [hp i hi] at h; simpa using h⟩
  · rintro ⟨x, hx, h⟩
    obtain ⟨i, hi, rfl⟩ := List.mem_iff_getElem.1 hx
    exact ⟨i, hi, by rw [hp i hi]; simpa using h⟩
/-- How many a kind is made of. -/
def manyP (k : Int) : Int := if k = 1 ∨ k = 2 ∨ k = 3 then 0 else if k = 4 ∨ k = 5 ∨ k = 6 ∨ k = 9 ∨ k = 16 ∨ k = 17 then 2 else 1
def namedP (k : Int) : Bool := decide (1 ≤ k ∧ k ≤ 3 ∨ 11 ≤ k ∧ k ≤ 13)
def numberP (k n : Int) : Bool := if k = 3 ∨ k = 8 then true else if k = 15 ∨ k = 17 then decide (1 ≤ n ∧ n ≤ 8) else decide (n = 0)
/-- Are a kind, a number, dims, and those of what it is made of, of their form? -/
def formP (k n : Int) (d : List Int) (l : List (List Int)) : Bool :=
  decide (1 ≤ k) && decide (k ≤ 17) && decide ((l.length : Int) = manyP k) && l.all mayP && numberP k n && (if namedP k then mayP d else decide (d = []))
def growsP (a b : List Int) : Bool := decide (a.length = b.length) && (List.range a.length).all fun i => decide (gi a i = 1) || decide (gi a i = gi b i)
def lastI (d : List Int) : Int := gi d ((d.length : Int) - 1)
def lessP (d : List Int) (n : Int) : List Int := d.set (d.length - 1) (lastI d / n)
def lessOk (d : List Int) (n : Int) : Bool := decide (lastI d % n = 0)
/-- The dims of a node's value, of what is of its form; none: they do not go together. -/
def dimsP (k n : Int) (d : List Int) (l : List (List Int)) : Option (List Int) :=
  let a := l.getD 0 []
  let b := l.getD 1 []
  if k = 1 ∨ k = 2 ∨ k = 3 then some d
  else if k = 4 ∨ k = 5 ∨ k = 6 ∨ k = 16 then if a = b then some a else none
  else if k = 9 then if a.length = 2 ∧ b.length = 2 ∧ gi a 1 = gi b 0 then some [gi a 0, gi b 1] else none
  else if k = 10 then if a.length = 2 then some [gi a 1, gi a 0] else none
  else if k = 11 then if prodL d = prodL a then some d else none
  else if k = 12 then if growsP a d then some d else none
  else if k = 13 then if growsP d a then some d else none
  else if k = 15 then if lessOk a n then some (lessP a n) else none
  else if k = 17 then if lessOk a n ∧ lessP a n = b then some a else none
  else some a
theorem mayP_spec {d : List Int} (h : mayP d = true) : 1 ≤ d.length ∧ d.length ≤ 3 ∧ (∀ x ∈ d, 1 ≤ x ∧ x ≤ 8) ∧ prodL d ≤ 64 := by
  simp only [mayP, Bool.and_eq_true, decide_eq_true_eq, List.all_eq_true, okDim] at h
  exact ⟨h.1.1.1, h.1.1.2, h.1.2, h.2⟩
theorem mayP_gi {d : List Int} (h : mayP d = true) (z : Int) (hz : 0 ≤ z ∧ z < d.length) : 1 ≤ gi d z ∧ gi d z ≤ 8 := by
  obtain ⟨_, _, h3, _⟩ := mayP_spec h
  have hz' : z.toNat < d.length := by omega
  have : gi d z = d[z.toNat] := by simp [gi, List.getD_eq_getElem?_getD, hz']
  rw [this]
  exact h3 _ (List.getElem_mem _)
theorem formP_spec {k n : Int} {d : List Int} {l : List (List Int)} (h : formP k n d l = true) : (1 ≤ k ∧ k ≤ 17) ∧ (l.length : Int) = manyP k ∧ (∀ x ∈ l, mayP x = true) ∧ numberP k n = true ∧ (if namedP k then mayP d = true else d = []) := by
  simp only [formP, Bool.and_eq_true, decide_eq_true_eq, List.all_eq_true] at h
  refine ⟨⟨h.1.1.1.1.1, h.1.1.1.1.2⟩, h.1.1.1.2, h.1.1.2, h.1.2, ?_⟩
  have := h.2
  split
  · rename_i hn; rw [hn] at this; simpa using this
  · rename_i hn; simp only [hn] at this; simpa using this
end Go.Ab

/- The types of the program as the abstract machine's table has them. -/
namespace Go.Proofs.A
open Go Go.Ab
/-- The machine's table. -/
noncomputable def tb : Tab := tabOf Go.Proofs.Try.prog fun _ => false
theorem tb_ok : tb.Ok Go.Proofs.Try.prog := tabOf_ok _ (by kernel_rfl)
noncomputable def fieldsOf (t : TypeId) : Array Field := match Go.Proofs.Try.prog.underlying t with | some (.struct fs) => fs | _ => #[]
theorem ty2 : tb.ty 2 = some { desc := .int .i64, size := 1, bytes := 8, zero := .int .i64 0, eqs := false } := by kernel_rfl
theorem ty3 : tb.ty 3 = some { desc := .int .i64, size := 1, bytes := 8, zero := .int .i64 0, eqs := false } := by kernel_rfl
theorem ty4 : tb.ty 4 = some { desc := .bool, size := 1, bytes := 1, zero := .bool false, eqs := false } := by kernel_rfl
theorem ty5 : tb.ty 5 = some { desc := .int .u8, size := 1, bytes := 1, zero := .int .u8 0, eqs := false } := by kernel_rfl
theorem ty6 : tb.ty 6 = some { desc := .int .u8, size := 1, bytes := 1, zero := .int .u8 0, eqs := false } := by kernel_rfl
theorem ty7 : tb.ty 7 = some { desc := .struct (fieldsOf 7), size := 4, bytes := 24, zero := .agg #[.int .i64 0, .int .i64 0, .bool false, .int .u8 0], eqs := true } := by kernel_rfl
theorem ty8 : tb.ty 8 = some { desc := .struct (fieldsOf 8), size := 4, bytes := 24, zero := .agg #[.int .i64 0, .int .i64 0, .bool false, .int .u8 0], eqs := true } := by kernel_rfl
theorem ty9 : tb.ty 9 = some { desc := .string, size := 1, bytes := 16, zero := .string .empty, eqs := false } := by kernel_rfl
theorem ty10 : tb.ty 10 = some { desc := .string, size := 1, bytes := 16, zero := .string .empty, eqs := false } := by kernel_rfl
theorem ty11 : tb.ty 11 = some { desc := .string, size := 1, bytes := 16, zero := .string .empty, eqs := false } := by kernel_rfl
theorem ty12 : tb.ty 12 = some { desc := .int .u64, size := 1, bytes := 8, zero := .int .u64 0, eqs := false } := by kernel_rfl
theorem ty13 : tb.ty 13 = some { desc := .struct (fieldsOf 13), size := 2, bytes := 24, zero := .agg #[.string .empty, .int .u64 0], eqs := false } := by kernel_rfl
theorem ty14 : tb.ty 14 = some { desc := .struct (fieldsOf 14), size := 2, bytes := 24, zero := .agg #[.string .empty, .int .u64 0], eqs := false } := by kernel_rfl
theorem ty15 : tb.ty 15 = some { desc := .pointer 86, size := 1, bytes := 8, zero := .pointer none, eqs := false } := by kernel_rfl
theorem ty16 : tb.ty 16 = some { desc := .pointer 89, size := 1, bytes := 8, zero := .pointer none, eqs := false } := by kernel_rfl
theorem ty17 : tb.ty 17 = some { desc := .pointer 98, size := 1, bytes := 8, zero := .pointer none, eqs := false } := by kernel_rfl
theorem ty18 : tb.ty 18 = some { desc := .struct (fieldsOf 18), size := 1, bytes := 8, zero := .agg #[.pointer none], eqs := false } := by kernel_rfl
theorem ty19 : tb.ty 19 = some { desc := .struct (fieldsOf 19), size := 1, bytes := 8, zero := .agg #[.pointer none], eqs := false } := by kernel_rfl
theorem ty21 : tb.ty 21 = some { desc := .int .i32, size := 1, bytes := 4, zero := .int .i32 0, eqs := false } := by kernel_rfl
theorem ty22 : tb.ty 22 = some { desc := .slice 27, size := 1, bytes := 24, zero := .slice none 0 0, eqs := false } := by kernel_rfl
theorem ty23 : tb.ty 23 = some { desc := .slice 3, size := 1, bytes := 24, zero := .slice none 0 0, eqs := false } := by kernel_rfl
theorem ty24 : tb.ty 24 = some { desc := .struct (fieldsOf 24), size := 2, bytes := 48, zero := .agg #[.slice none 0 0, .slice none 0 0], eqs := true } := by kernel_rfl
theorem ty25 : tb.ty 25 = some { desc := .struct (fieldsOf 25), size := 2, bytes := 48, zero := .agg #[.slice none 0 0, .slice none 0 0], eqs := true } := by kernel_rfl
theorem ty26 : tb.ty 26 = some { desc := .struct (fieldsOf 26), size := 3, bytes := 24, zero := .agg #[.int .i64 0, .int .i64 0, .int .i64 0], eqs := true } := by kernel_rfl
theorem ty27 : tb.ty 27 = some { desc := .struct (fieldsOf 27), size := 3, bytes := 24, zero := .agg #[.int .i64 0, .int .i64 0, .int .i64 0], eqs := true } := by kernel_rfl
theorem ty28 : tb.ty 28 = some { desc := .int .i64, size := 1, bytes := 8, zero := .int .i64 0, eqs := false } := by kernel_rfl
theorem ty42 : tb.ty 42 = some { desc := .slice 23, size := 1, bytes := 24, zero := .slice none 0 0, eqs := false } := by kernel_rfl
theorem ty53 : tb.ty 53 = some { desc := .int .u64, size := 1, bytes := 8, zero := .int .u64 0, eqs := false } := by kernel_rfl
theorem ty54 : tb.ty 54 = some { desc := .slice 56, size := 1, bytes := 24, zero := .slice none 0 0, eqs := false } := by kernel_rfl
theorem ty55 : tb.ty 55 = some { desc := .struct (fieldsOf 55), size := 2, bytes := 16, zero := .agg #[.int .i64 0, .int .i64 0], eqs := true } := by kernel_rfl
theorem ty56 : tb.ty 56 = some { desc := .struct (fieldsOf 56), size := 2, bytes := 16, zero := .agg #[.int .i64 0, .int .i64 0], eqs := true } := by kernel_rfl
theorem ty64 : tb.ty 64 = some { desc := .int .i64, size := 1, bytes := 8, zero := .int .i64 0, eqs := false } := by kernel_rfl
theorem ty72 : tb.ty 72 = some { desc := .int .u32, size := 1, bytes := 4, zero := .int .u32 0, eqs := false } := by kernel_rfl
theorem ty74 : tb.ty 74 = some { desc := .int .u64, size := 1, bytes := 8, zero := .int .u64 0, eqs := false } := by kernel_rfl
theorem ty75 : tb.ty 75 = some { desc := .int .u64, size := 1, bytes := 8, zero := .int .u64 0, eqs := false } := by kernel_rfl
theorem ty79 : tb.ty 79 = some { desc := .pointer 3, size := 1, bytes := 8, zero := .pointer none, eqs := false } := by kernel_rfl
theorem ty81 : tb.ty 81 = some { desc := .pointer 75, size := 1, bytes := 8, zero := .pointer none, eqs := false } := by kernel_rfl
theorem ty85 : tb.ty 85 = some { desc := .struct (fieldsOf 85), size := 4, bytes := 40, zero := .agg #[.pointer none, .pointer none, .pointer none, .string .empty], eqs := false } := by kernel_rfl
theorem ty86 : tb.ty 86 = some { desc := .struct (fieldsOf 86), size := 4, bytes := 40, zero := .agg #[.pointer none, .pointer none, .pointer none, .string .empty], eqs := false } := by kernel_rfl
theorem ty87 : tb.ty 87 = some { desc := .array 0 16, size := 0, bytes := 0, zero := .agg #[], eqs := false } := by kernel_rfl
theorem ty88 : tb.ty 88 = some { desc := .struct (fieldsOf 88), size := 0, bytes := 0, zero := .agg #[], eqs := false } := by kernel_rfl
theorem ty89 : tb.ty 89 = some { desc := .struct (fieldsOf 89), size := 0, bytes := 0, zero := .agg #[], eqs := false } := by kernel_rfl
theorem ty91 : tb.ty 91 = some { desc := .int .u8, size := 1, bytes := 1, zero := .int .u8 0, eqs := false } := by kernel_rfl
theorem ty92 : tb.ty 92 = some { desc := .int .u8, size := 1, bytes := 1, zero := .int .u8 0, eqs := false } := by kernel_rfl
theorem ty94 : tb.ty 94 = some { desc := .pointer 5, size := 1, bytes := 8, zero := .pointer none, eqs := false } := by kernel_rfl
theorem ty95 : tb.ty 95 = some { desc := .int .i32, size := 1, bytes := 4, zero := .int .i32 0, eqs := false } := by kernel_rfl
theorem ty96 : tb.ty 96 = some { desc := .int .i32, size := 1, bytes := 4, zero := .int .i32 0, eqs := false } := by kernel_rfl
theorem ty97 : tb.ty 97 = some { desc := .struct (fieldsOf 97), size := 11, bytes := 48, zero := .agg #[.int .u64 0, .int .u64 0, .int .u32 0, .int .u8 0, .int .u8 0, .int .u8 0, .int .u8 0, .nilFunc, .pointer none, .int .i32 0, .int .i32 0], eqs := false } := by kernel_rfl
theorem ty98 : tb.ty 98 = some { desc := .struct (fieldsOf 98), size := 11, bytes := 48, zero := .agg #[.int .u64 0, .int .u64 0, .int .u32 0, .int .u8 0, .int .u8 0, .int .u8 0, .int .u8 0, .nilFunc, .pointer none, .int .i32 0, .int .i32 0], eqs := false } := by kernel_rfl
theorem ty99 : tb.ty 99 = some { desc := .unsafePointer, size := 1, bytes := 8, zero := .pointer none, eqs := false } := by kernel_rfl
theorem lp2 (b k : Nat) (G : Nat → Option Blk) : aload tb 2 (.pointer (some ⟨b, k, none⟩)) G = nthO (G b) k := load_pt ty2 rfl b k G
theorem sp2 (b k : Nat) (v : Value) (G : AH) : astore tb 2 (.pointer (some ⟨b, k, none⟩)) v G = roO (leB G.ro b) (putO G b (setV (G.get b) k (cellN v 1))) := store_ptR ty2 b k v G
theorem lp3 (b k : Nat) (G : Nat → Option Blk) : aload tb 3 (.pointer (some ⟨b, k, none⟩)) G = nthO (G b) k := load_pt ty3 rfl b k G
theorem sp3 (b k : Nat) (v : Value) (G : AH) : astore tb 3 (.pointer (some ⟨b, k, none⟩)) v G = roO (leB G.ro b) (putO G b (setV (G.get b) k (cellN v 1))) := store_ptR ty3 b k v G
theorem lp4 (b k : Nat) (G : Nat → Option Blk) : aload tb 4 (.pointer (some ⟨b, k, none⟩)) G = nthO (G b) k := load_pt ty4 rfl b k G
theorem sp4 (b k : Nat) (v : Value) (G : AH) : astore tb 4 (.pointer (some ⟨b, k, none⟩)) v G = roO (leB G.ro b) (putO G b (setV (G.get b) k (cellN v 1))) := store_ptR ty4 b k v G
theorem lp5 (b k : Nat) (G : Nat → Option Blk) : aload tb 5 (.pointer (some ⟨b, k, none⟩)) G = nthO (G b) k := load_pt ty5 rfl b k G
theorem sp5 (b k : Nat) (v : Value) (G : AH) : astore tb 5 (.pointer (some ⟨b, k, none⟩)) v G = roO (leB G.ro b) (putO G b (setV (G.get b) k (cellN v 1))) := store_ptR ty5 b k v G
theorem lp6 (b k : Nat) (G : Nat → Option Blk) : aload tb 6 (.pointer (some ⟨b, k, none⟩)) G = nthO (G b) k := load_pt ty6 rfl b k G
theorem sp6 (b k : Nat) (v : Value) (G : AH) : astore tb 6 (.pointer (some ⟨b, k, none⟩)) v G = roO (leB G.ro b) (putO G b (setV (G.get b) k (cellN v 1))) := store_ptR ty6 b k v G
theorem lp7 (b k : Nat) (G : Nat → Option Blk) : aload tb 7 (.pointer (some ⟨b, k, none⟩)) G = aggO (G b) k 4 := load_agg ty7 rfl b k G
theorem sp7 (b k : Nat) (v : Value) (G : AH) : astore tb 7 (.pointer (some ⟨b, k, none⟩)) v G = roO (leB G.ro b) (putO G b (setV (G.get b) k (cellN v 4))) := store_ptR ty7 b k v G
theorem lp8 (b k : Nat) (G : Nat → Option Blk) : aload tb 8 (.pointer (some ⟨b, k, none⟩)) G = aggO (G b) k 4 := load_agg ty8 rfl b k G
theorem sp8 (b k : Nat) (v : Value) (G : AH) : astore tb 8 (.pointer (some ⟨b, k, none⟩)) v G = roO (leB G.ro b) (putO G b (setV (G.get b) k (cellN v 4))) := store_ptR ty8 b k v G
theorem lp9 (b k : Nat) (G : Nat → Option Blk) : aload tb 9 (.pointer (some ⟨b, k, none⟩)) G = nthO (G b) k := load_pt ty9 rfl b k G
theorem sp9 (b k : Nat) (v : Value) (G : AH) : astore tb 9 (.pointer (some ⟨b, k, none⟩)) v G = roO (leB G.ro b) (putO G b (setV (G.get b) k (cellN v 1))) := store_ptR ty9 b k v G
theorem lp10 (b k : Nat) (G : Nat → Option Blk) : aload tb 10 (.pointer (some ⟨b, k, none⟩)) G = nthO (G b) k := load_pt ty10 rfl b k G
theorem sp10 (b k : Nat) (v : Value) (G : AH) : astore tb 10 (.pointer (some ⟨b, k, none⟩)) v G = roO (leB G.ro b) (putO G b (setV (G.get b) k (cellN v 1))) := store_ptR ty10 b k v G
theorem lp11 (b k : Nat) (G : Nat → Option Blk) : aload tb 11 (.pointer (some ⟨b, k, none⟩)) G = nthO (G b) k := load_pt ty11 rfl b k G
theorem sp11 (b k : Nat) (v : Value) (G : AH) : astore tb 11 (.pointer (some ⟨b, k, none⟩)) v G = roO (leB G.ro b) (putO G b (setV (G.get b) k (cellN v 1))) := store_ptR ty11 b k v G
theorem lp12 (b k : Nat) (G : Nat → Option Blk) : aload tb 12 (.pointer (some ⟨b, k, none⟩)) G = nthO (G b) k := load_pt ty12 rfl b k G
theorem sp12 (b k : Nat) (v : Value) (G : AH) : astore tb 12 (.pointer (some ⟨b, k, none⟩)) v G = roO (leB G.ro b) (putO G b (setV (G.get b) k (cellN v 1))) := store_ptR ty12 b k v G
theorem lp13 (b k : Nat) (G : Nat → Option Blk) : aload tb 13 (.pointer (some ⟨b, k, none⟩)) G = aggO (G b) k 2 := load_agg ty13 rfl b k G
theorem sp13 (b k : Nat) (v : Value) (G : AH) : astore tb 13 (.pointer (some ⟨b, k, none⟩)) v G = roO (leB G.ro b) (putO G b (setV (G.get b) k (cellN v 2))) := store_ptR ty13 b k v G
theorem lp14 (b k : Nat) (G : Nat → Option Blk) : aload tb 14 (.pointer (some ⟨b, k, none⟩)) G = aggO (G b) k 2 := load_agg ty14 rfl b k G
theorem sp14 (b k : Nat) (v : Value) (G : AH) : astore tb 14 (.pointer (some ⟨b, k, none⟩)) v G = roO (leB G.ro b) (putO G b (setV (G.get b) k (cellN v 2))) := store_ptR ty14 b k v G
theorem lp15 (b k : Nat) (G : Nat → Option Blk) : aload tb 15 (.pointer (some ⟨b, k, none⟩)) G = nthO (G b) k := load_pt ty15 rfl b k G
theorem sp15 (b k : Nat) (v : Value) (G : AH) : astore tb 15 (.pointer (some ⟨b, k, none⟩)) v G = roO (leB G.ro b) (putO G b (setV (G.get b) k (cellN v 1))) := store_ptR ty15 b k v G
theorem lp16 (b k : Nat) (G : Nat → Option Blk) : aload tb 16 (.pointer (some ⟨b, k, none⟩)) G = nthO (G b) k := load_pt ty16 rfl b k G
theorem sp16 (b k : Nat) (v : Value) (G : AH) : astore tb 16 (.pointer (some ⟨b, k, none⟩)) v G = roO (leB G.ro b) (putO G b (setV (G.get b) k (cellN v 1))) := store_ptR ty16 b k v G
theorem lp17 (b k : Nat) (G : Nat → Option Blk) : aload tb 17 (.pointer (some ⟨b, k, none⟩)) G = nthO (G b) k := load_pt ty17 rfl b k G
theorem sp17 (b k : Nat) (v : Value) (G : AH) : astore tb 17 (.pointer (some ⟨b, k, none⟩)) v G = roO (leB G.ro b) (putO G b (setV (G.get b) k (cellN v 1))) := store_ptR ty17 b k v G
theorem lp18 (b k : Nat) (G : Nat → Option Blk) : aload tb 18 (.pointer (some ⟨b, k, none⟩)) G = aggO (G b) k 1 := load_agg ty18 rfl b k G
theorem sp18 (b k : Nat) (v : Value) (G : AH) : astore tb 18 (.pointer (some ⟨b, k, none⟩)) v G = roO (leB G.ro b) (putO G b (setV (G.get b) k (cellN v 1))) := store_ptR ty18 b k v G
theorem lp19 (b k : Nat) (G : Nat → Option Blk) : aload tb 19 (.pointer (some ⟨b, k, none⟩)) G = aggO (G b) k 1 := load_agg ty19 rfl b k G
theorem sp19 (b k : Nat) (v : Value) (G : AH) : astore tb 19 (.pointer (some ⟨b, k, none⟩)) v G = roO (leB G.ro b) (putO G b (setV (G.get b) k (cellN v 1))) := store_ptR ty19 b k v G
theorem lp21 (b k : Nat) (G : Nat → Option Blk) : aload tb 21 (.pointer (some ⟨b, k, none⟩)) G = nthO (G b) k := load_pt ty21 rfl b k G
theorem sp21 (b k : Nat) (v : Value) (G : AH) : astore tb 21 (.pointer (some ⟨b, k, none⟩)) v G = roO (leB G.ro b) (putO G b (setV (G.get b) k (cellN v 1))) := store_ptR ty21 b k v G
theorem lp22 (b k : Nat) (G : Nat → Option Blk) : aload tb 22 (.pointer (some ⟨b, k, none⟩)) G = nthO (G b) k := load_pt ty22 rfl b k G
theorem sp22 (b k : Nat) (v : Value) (G : AH) : astore tb 22 (.pointer (some ⟨b, k, none⟩)) v G = roO (leB G.ro b) (putO G b (setV (G.get b) k (cellN v 1))) := store_ptR ty22 b k v G
theorem lp23 (b k : Nat) (G : Nat → Option Blk) : aload tb 23 (.pointer (some ⟨b, k, none⟩)) G = nthO (G b) k := load_pt ty23 rfl b k G
theorem sp23 (b k : Nat) (v : Value) (G : AH) : astore tb 23 (.pointer (some ⟨b, k, none⟩)) v G = roO (leB G.ro b) (putO G b (setV (G.get b) k (cellN v 1))) := store_ptR ty23 b k v G
theorem lp24 (b k : Nat) (G : Nat → Option Blk) : aload tb 24 (.pointer (some ⟨b, k, none⟩)) G = aggO (G b) k 2 := load_agg ty24 rfl b k G
theorem sp24 (b k : Nat) (v : Value) (G : AH) : astore tb 24 (.pointer (some ⟨b, k, none⟩)) v G = roO (leB G.ro b) (putO G b (setV (G.get b) k (cellN v 2))) := store_ptR ty24 b k v G
theorem lp25 (b k : Nat) (G : Nat → Option Blk) : aload tb 25 (.pointer (some ⟨b, k, none⟩)) G = aggO (G b) k 2 := load_agg ty25 rfl b k G
theorem sp25 (b k : Nat) (v : Value) (G : AH) : astore tb 25 (.pointer (some ⟨b, k, none⟩)) v G = roO (leB G.ro b) (putO G b (setV (G.get b) k (cellN v 2))) := store_ptR ty25 b k v G
theorem lp26 (b k : Nat) (G : Nat → Option Blk) : aload tb 26 (.pointer (some ⟨b, k, none⟩)) G = aggO (G b) k 3 := load_agg ty26 rfl b k G
theorem sp26 (b k : Nat) (v : Value) (G : AH) : astore tb 26 (.pointer (some ⟨b, k, none⟩)) v G = roO (leB G.ro b) (putO G b (setV (G.get b) k (cellN v 3))) := store_ptR ty26 b k v G
theorem lp27 (b k : Nat) (G : Nat → Option Blk) : aload tb 27 (.pointer (some ⟨b, k, none⟩)) G = aggO (G b) k 3 := load_agg ty27 rfl b k G
theorem sp27 (b k : Nat) (v : Value) (G : AH) : astore tb 27 (.pointer (some ⟨b, k, none⟩)) v G = roO (leB G.ro b) (putO G b (setV (G.get b) k (cellN v 3))) := store_ptR ty27 b k v G
theorem lp28 (b k : Nat) (G : Nat → Option Blk) : aload tb 28 (.pointer (some ⟨b, k, none⟩)) G = nthO (G b) k := load_pt ty28 rfl b k G
theorem sp28 (b k : Nat) (v : Value) (G : AH) : astore tb 28 (.pointer (some ⟨b, k, none⟩)) v G = roO (leB G.ro b) (putO G b (setV (G.get b) k (cellN v 1))) := store_ptR ty28 b k v G
theorem lp42 (b k : Nat) (G : Nat → Option Blk) : aload tb 42 (.pointer (some ⟨b, k, none⟩)) G = nthO (G b) k := load_pt ty42 rfl b k G
theorem sp42 (b k : Nat) (v : Value) (G : AH) : astore tb 42 (.pointer (some ⟨b, k, none⟩)) v G = roO (leB G.ro b) (putO G b (setV (G.get b) k (cellN v 1))) := store_ptR ty42 b k v G
theorem lp53 (b k : Nat) (G : Nat → Option Blk) : aload tb 53 (.pointer (some ⟨b, k, none⟩)) G = nthO (G b) k := load_pt ty53 rfl b k G
theorem sp53 (b k : Nat) (v : Value) (G : AH) : astore tb 53 (.pointer (some ⟨b, k, none⟩)) v G = roO (leB G.ro b) (putO G b (setV (G.get b) k (cellN v 1))) := store_ptR ty53 b k v G
theorem lp54 (b k : Nat) (G : Nat → Option Blk) : aload tb 54 (.pointer (some ⟨b, k, none⟩)) G = nthO (G b) k := load_pt ty54 rfl b k G
theorem sp54 (b k : Nat) (v : Value) (G : AH) : astore tb 54 (.pointer (some ⟨b, k, none⟩)) v G = roO (leB G.ro b) (putO G b (setV (G.get b) k (cellN v 1))) := store_ptR ty54 b k v G
theorem lp55 (b k : Nat) (G : Nat → Option Blk) : aload tb 55 (.pointer (some ⟨b, k, none⟩)) G = aggO (G b) k 2 := load_agg ty55 rfl b k G
theorem sp55 (b k : Nat) (v : Value) (G : AH) : astore tb 55 (.pointer (some ⟨b, k, none⟩)) v G = roO (leB G.ro b) (putO G b (setV (G.get b) k (cellN v 2))) := store_ptR ty55 b k v G
theorem lp56 (b k : Nat) (G : Nat → Option Blk) : aload tb 56 (.pointer (some ⟨b, k, none⟩)) G = aggO (G b) k 2 := load_agg ty56 rfl b k G
theorem sp56 (b k : Nat) (v : Value) (G : AH) : astore tb 56 (.pointer (some ⟨b, k, none⟩)) v G = roO (leB G.ro b) (putO G b (setV (G.get b) k (cellN v 2))) := store_ptR ty56 b k v G
theorem lp64 (b k : Nat) (G : Nat → Option Blk) : aload tb 64 (.pointer (some ⟨b, k, none⟩)) G = nthO (G b) k := load_pt ty64 rfl b k G
theorem sp64 (b k : Nat) (v : Value) (G : AH) : astore tb 64 (.pointer (some ⟨b, k, none⟩)) v G = roO (leB G.ro b) (putO G b (setV (G.get b) k (cellN v 1))) := store_ptR ty64 b k v G
theorem lp72 (b k : Nat) (G : Nat → Option Blk) : aload tb 72 (.pointer (some ⟨b, k, none⟩)) G = nthO (G b) k := load_pt ty72 rfl b k G
theorem sp72 (b k : Nat) (v : Value) (G : AH) : astore tb 72 (.pointer (some ⟨b, k, none⟩)) v G = roO (leB G.ro b) (putO G b (setV (G.get b) k (cellN v 1))) := store_ptR ty72 b k v G
theorem lp74 (b k : Nat) (G : Nat → Option Blk) : aload tb 74 (.pointer (some ⟨b, k, none⟩)) G = nthO (G b) k := load_pt ty74 rfl b k G
theorem sp74 (b k : Nat) (v : Value) (G : AH) : astore tb 74 (.pointer (some ⟨b, k, none⟩)) v G = roO (leB G.ro b) (putO G b (setV (G.get b) k (cellN v 1))) := store_ptR ty74 b k v G
theorem lp75 (b k : Nat) (G : Nat → Option Blk) : aload tb 75 (.pointer (some ⟨b, k, none⟩)) G = nthO (G b) k := load_pt ty75 rfl b k G
theorem sp75 (b k : Nat) (v : Value) (G : AH) : astore tb 75 (.pointer (some ⟨b, k, none⟩)) v G = roO (leB G.ro b) (putO G b (setV (G.get b) k (cellN v 1))) := store_ptR ty75 b k v G
theorem lp79 (b k : Nat) (G : Nat → Option Blk) : aload tb 79 (.pointer (some ⟨b, k, none⟩)) G = nthO (G b) k := load_pt ty79 rfl b k G
theorem sp79 (b k : Nat) (v : Value) (G : AH) : astore tb 79 (.pointer (some ⟨b, k, none⟩)) v G = roO (leB G.ro b) (putO G b (setV (G.get b) k (cellN v 1))) := store_ptR ty79 b k v G
theorem lp81 (b k : Nat) (G : Nat → Option Blk) : aload tb 81 (.pointer (some ⟨b, k, none⟩)) G = nthO (G b) k := load_pt ty81 rfl b k G
theorem sp81 (b k : Nat) (v : Value) (G : AH) : astore tb 81 (.pointer (some ⟨b, k, none⟩)) v G = roO (leB G.ro b) (putO G b (setV (G.get b) k (cellN v 1))) := store_ptR ty81 b k v G
theorem lp85 (b k : Nat) (G : Nat → Option Blk) : aload tb 85 (.pointer (some ⟨b, k, none⟩)) G = aggO (G b) k 4 := load_agg ty85 rfl b k G
theorem sp85 (b k : Nat) (v : Value) (G : AH) : astore tb 85 (.pointer (some ⟨b, k, none⟩)) v G = roO (leB G.ro b) (putO G b (setV (G.get b) k (cellN v 4))) := store_ptR ty85 b k v G
theorem lp86 (b k : Nat) (G : Nat → Option Blk) : aload tb 86 (.pointer (some ⟨b, k, none⟩)) G = aggO (G b) k 4 := load_agg ty86 rfl b k G
theorem sp86 (b k : Nat) (v : Value) (G : AH) : astore tb 86 (.pointer (some ⟨b, k, none⟩)) v G = roO (leB G.ro b) (putO G b (setV (G.get b) k (cellN v 4))) := store_ptR ty86 b k v G
theorem lp91 (b k : Nat) (G : Nat → Option Blk) : aload tb 91 (.pointer (some ⟨b, k, none⟩)) G = nthO (G b) k := load_pt ty91 rfl b k G
theorem sp91 (b k : Nat) (v : Value) (G : AH) : astore tb 91 (.pointer (some ⟨b, k, none⟩)) v G = roO (leB G.ro b) (putO G b (setV (G.get b) k (cellN v 1))) := store_ptR ty91 b k v G
theorem lp92 (b k : Nat) (G : Nat → Option Blk) : aload tb 92 (.pointer (some ⟨b, k, none⟩)) G = nthO (G b) k := load_pt ty92 rfl b k G
theorem sp92 (b k : Nat) (v : Value) (G : AH) : astore tb 92 (.pointer (some ⟨b, k, none⟩)) v G = roO (leB G.ro b) (putO G b (setV (G.get b) k (cellN v 1))) := store_ptR ty92 b k v G
theorem lp94 (b k : Nat) (G : Nat → Option Blk) : aload tb 94 (.pointer (some ⟨b, k, none⟩)) G = nthO (G b) k := load_pt ty94 rfl b k G
theorem sp94 (b k : Nat) (v : Value) (G : AH) : astore tb 94 (.pointer (some ⟨b, k, none⟩)) v G = roO (leB G.ro b) (putO G b (setV (G.get b) k (cellN v 1))) := store_ptR ty94 b k v G
theorem lp95 (b k : Nat) (G : Nat → Option Blk) : aload tb 95 (.pointer (some ⟨b, k, none⟩)) G = nthO (G b) k := load_pt ty95 rfl b k G
theorem sp95 (b k : Nat) (v : Value) (G : AH) : astore tb 95 (.pointer (some ⟨b, k, none⟩)) v G = roO (leB G.ro b) (putO G b (setV (G.get b) k (cellN v 1))) := store_ptR ty95 b k v G
theorem lp96 (b k : Nat) (G : Nat → Option Blk) : aload tb 96 (.pointer (some ⟨b, k, none⟩)) G = nthO (G b) k := load_pt ty96 rfl b k G
theorem sp96 (b k : Nat) (v : Value) (G : AH) : astore tb 96 (.pointer (some ⟨b, k, none⟩)) v G = roO (leB G.ro b) (putO G b (setV (G.get b) k (cellN v 1))) := store_ptR ty96 b k v G
theorem lp97 (b k : Nat) (G : Nat → Option Blk) : aload tb 97 (.pointer (some ⟨b, k, none⟩)) G = aggO (G b) k 11 := load_agg ty97 rfl b k G
theorem sp97 (b k : Nat) (v : Value) (G : AH) : astore tb 97 (.pointer (some ⟨b, k, none⟩)) v G = roO (leB G.ro b) (putO G b (setV (G.get b) k (cellN v 11))) := store_ptR ty97 b k v G
theorem lp98 (b k : Nat) (G : Nat → Option Blk) : aload tb 98 (.pointer (some ⟨b, k, none⟩)) G = aggO (G b) k 11 := load_agg ty98 rfl b k G
theorem sp98 (b k : Nat) (v : Value) (G : AH) : astore tb 98 (.pointer (some ⟨b, k, none⟩)) v G = roO (leB G.ro b) (putO G b (setV (G.get b) k (cellN v 11))) := store_ptR ty98 b k v G
theorem lp99 (b k : Nat) (G : Nat → Option Blk) : aload tb 99 (.pointer (some ⟨b, k, none⟩)) G = nthO (G b) k := load_pt ty99 rfl b k G
theorem sp99 (b k : Nat) (v : Value) (G : AH) : astore tb 99 (.pointer (some ⟨b, k, none⟩)) v G = roO (leB G.ro b) (putO G b (setV (G.get b) k (cellN v 1))) := store_ptR ty99 b k v G
theorem fa7_0 (b off : Nat) : afield tb 7 (.pointer (some ⟨b, off, none⟩)) 0 = some (.pointer (some ⟨b, off + 0, none⟩)) := by kernel_rfl
theorem fp7_0 (c0 c1 c2 c3 : Value) : apick tb 7 (.agg #[c0, c1, c2, c3]) 0 = some c0 := by kernel_rfl
theorem fa7_1 (b off : Nat) : afield tb 7 (.pointer (some ⟨b, off, none⟩)) 1 = some (.pointer (some ⟨b, off + 1, none⟩)) := by kernel_rfl
theorem fp7_1 (c0 c1 c2 c3 : Value) : apick tb 7 (.agg #[c0, c1, c2, c3]) 1 = some c1 := by kernel_rfl
theorem fa7_2 (b off : Nat) : afield tb 7 (.pointer (some ⟨b, off, none⟩)) 2 = some (.pointer (some ⟨b, off + 2, none⟩)) := by kernel_rfl
theorem fp7_2 (c0 c1 c2 c3 : Value) : apick tb 7 (.agg #[c0, c1, c2, c3]) 2 = some c2 := by kernel_rfl
theorem fa7_3 (b off : Nat) : afield tb 7 (.pointer (some ⟨b, off, none⟩)) 3 = some (.pointer (some ⟨b, off + 3, none⟩)) := by kernel_rfl
theorem fp7_3 (c0 c1 c2 c3 : Value) : apick tb 7 (.agg #[c0, c1, c2, c3]) 3 = some c3 := by kernel_rfl
theorem fa8_0 (b off : Nat) : afield tb 8 (.pointer (some ⟨b, off, none⟩)) 0 = some (.pointer (some ⟨b, off + 0, none⟩)) := by kernel_rfl
theorem fp8_0 (c0 c1 c2 c3 : Value) : apick tb 8 (.agg #[c0, c1, c2, c3]) 0 = some c0 := by kernel_rfl
theorem fa8_1 (b off : Nat) : afield tb 8 (.pointer (some ⟨b, off, none⟩)) 1 = some (.pointer (some ⟨b, off + 1, none⟩)) := by kernel_rfl
theorem fp8_1 (c0 c1 c2 c3 : Value) : apick tb 8 (.agg #[c0, c1, c2, c3]) 1 = some c1 := by kernel_rfl
theorem fa8_2 (b off : Nat) : afield tb 8 (.pointer (some ⟨b, off, none⟩)) 2 = some (.pointer (some ⟨b, off + 2, none⟩)) := by kernel_rfl
theorem fp8_2 (c0 c1 c2 c3 : Value) : apick tb 8 (.agg #[c0, c1, c2, c3]) 2 = some c2 := by kernel_rfl
theorem fa8_3 (b off : Nat) : afield tb 8 (.pointer (some ⟨b, off, none⟩)) 3 = some (.pointer (some ⟨b, off + 3, none⟩)) := by kernel_rfl
theorem fp8_3 (c0 c1 c2 c3 : Value) : apick tb 8 (.agg #[c0, c1, c2, c3]) 3 = some c3 := by kernel_rfl
theorem fa13_0 (b off : Nat) : afield tb 13 (.pointer (some ⟨b, off, none⟩)) 0 = some (.pointer (some ⟨b, off + 0, none⟩)) := by kernel_rfl
theorem fp13_0 (c0 c1 : Value) : apick tb 13 (.agg #[c0, c1]) 0 = some c0 := by kernel_rfl
theorem fa13_1 (b off : Nat) : afield tb 13 (.pointer (some ⟨b, off, none⟩)) 1 = some (.pointer (some ⟨b, off + 1, none⟩)) := by kernel_rfl
theorem fp13_1 (c0 c1 : Value) : apick tb 13 (.agg #[c0, c1]) 1 = some c1 := by kernel_rfl
theorem fa14_0 (b off : Nat) : afield tb 14 (.pointer (some ⟨b, off, none⟩)) 0 = some (.pointer (some ⟨b, off + 0, none⟩)) := by kernel_rfl
theorem fp14_0 (c0 c1 : Value) : apick tb 14 (.agg #[c0, c1]) 0 = some c0 := by kernel_rfl
theorem fa14_1 (b off : Nat) : afield tb 14 (.pointer (some ⟨b, off, none⟩)) 1 = some (.pointer (some ⟨b, off + 1, none⟩)) := by kernel_rfl
theorem fp14_1 (c0 c1 : Value) : apick tb 14 (.agg #[c0, c1]) 1 = some c1 := by kernel_rfl
theorem fa18_0 (b off : Nat) : afield tb 18 (.pointer (some ⟨b, off, none⟩)) 0 = some (.pointer (some ⟨b, off + 0, none⟩)) := by kernel_rfl
theorem fp18_0 (c0 : Value) : apick tb 18 (.agg #[c0]) 0 = some c0 := by kernel_rfl
theorem fa19_0 (b off : Nat) : afield tb 19 (.pointer (some ⟨b, off, none⟩)) 0 = some (.pointer (some ⟨b, off + 0, none⟩)) := by kernel_rfl
theorem fp19_0 (c0 : Value) : apick tb 19 (.agg #[c0]) 0 = some c0 := by kernel_rfl
theorem fa24_0 (b off : Nat) : afield tb 24 (.pointer (some ⟨b, off, none⟩)) 0 = some (.pointer (some ⟨b, off + 0, none⟩)) := by kernel_rfl
theorem fp24_0 (c0 c1 : Value) : apick tb 24 (.agg #[c0, c1]) 0 = some c0 := by kernel_rfl
theorem fa24_1 (b off : Nat) : afield tb 24 (.pointer (some ⟨b, off, none⟩)) 1 = some (.pointer (some ⟨b, off + 1, none⟩)) := by kernel_rfl
theorem fp24_1 (c0 c1 : Value) : apick tb 24 (.agg #[c0, c1]) 1 = some c1 := by kernel_rfl
theorem fa25_0 (b off : Nat) : afield tb 25 (.pointer (some ⟨b, off, none⟩)) 0 = some (.pointer (some ⟨b, off + 0, none⟩)) := by kernel_rfl
theorem fp25_0 (c0 c1 : Value) : apick tb 25 (.agg #[c0, c1]) 0 = some c0 := by kernel_rfl
theorem fa25_1 (b off : Nat) : afield tb 25 (.pointer (some ⟨b, off, none⟩)) 1 = some (.pointer (some ⟨b, off + 1, none⟩)) := by kernel_rfl
theorem fp25_1 (c0 c1 : Value) : apick tb 25 (.agg #[c0, c1]) 1 = some c1 := by kernel_rfl
theorem fa26_0 (b off : Nat) : afield tb 26 (.pointer (some ⟨b, off, none⟩)) 0 = some (.pointer (some ⟨b, off + 0, none⟩)) := by kernel_rfl
theorem fp26_0 (c0 c1 c2 : Value) : apick tb 26 (.agg #[c0, c1, c2]) 0 = some c0 := by kernel_rfl
theorem fa26_1 (b off : Nat) : afield tb 26 (.pointer (some ⟨b, off, none⟩)) 1 = some (.pointer (some ⟨b, off + 1, none⟩)) := by kernel_rfl
theorem fp26_1 (c0 c1 c2 : Value) : apick tb 26 (.agg #[c0, c1, c2]) 1 = some c1 := by kernel_rfl
theorem fa26_2 (b off : Nat) : afield tb 26 (.pointer (some ⟨b, off, none⟩)) 2 = some (.pointer (some ⟨b, off + 2, none⟩)) := by kernel_rfl
theorem fp26_2 (c0 c1 c2 : Value) : apick tb 26 (.agg #[c0, c1, c2]) 2 = some c2 := by kernel_rfl
theorem fa27_0 (b off : Nat) : afield tb 27 (.pointer (some ⟨b, off, none⟩)) 0 = some (.pointer (some ⟨b, off + 0, none⟩)) := by kernel_rfl
theorem fp27_0 (c0 c1 c2 : Value) : apick tb 27 (.agg #[c0, c1, c2]) 0 = some c0 := by kernel_rfl
theorem fa27_1 (b off : Nat) : afield tb 27 (.pointer (some ⟨b, off, none⟩)) 1 = some (.pointer (some ⟨b, off + 1, none⟩)) := by kernel_rfl
theorem fp27_1 (c0 c1 c2 : Value) : apick tb 27 (.agg #[c0, c1, c2]) 1 = some c1 := by kernel_rfl
theorem fa27_2 (b off : Nat) : afield tb 27 (.pointer (some ⟨b, off, none⟩)) 2 = some (.pointer (some ⟨b, off + 2, none⟩)) := by kernel_rfl
theorem fp27_2 (c0 c1 c2 : Value) : apick tb 27 (.agg #[c0, c1, c2]) 2 = some c2 := by kernel_rfl
theorem fa55_0 (b off : Nat) : afield tb 55 (.pointer (some ⟨b, off, none⟩)) 0 = some (.pointer (some ⟨b, off + 0, none⟩)) := by kernel_rfl
theorem fp55_0 (c0 c1 : Value) : apick tb 55 (.agg #[c0, c1]) 0 = some c0 := by kernel_rfl
theorem fa55_1 (b off : Nat) : afield tb 55 (.pointer (some ⟨b, off, none⟩)) 1 = some (.pointer (some ⟨b, off + 1, none⟩)) := by kernel_rfl
theorem fp55_1 (c0 c1 : Value) : apick tb 55 (.agg #[c0, c1]) 1 = some c1 := by kernel_rfl
theorem fa56_0 (b off : Nat) : afield tb 56 (.pointer (some ⟨b, off, none⟩)) 0 = some (.pointer (some ⟨b, off + 0, none⟩)) := by kernel_rfl
theorem fp56_0 (c0 c1 : Value) : apick tb 56 (.agg #[c0, c1]) 0 = some c0 := by kernel_rfl
theorem fa56_1 (b off : Nat) : afield tb 56 (.pointer (some ⟨b, off, none⟩)) 1 = some (.pointer (some ⟨b, off + 1, none⟩)) := by kernel_rfl
theorem fp56_1 (c0 c1 : Value) : apick tb 56 (.agg #[c0, c1]) 1 = some c1 := by kernel_rfl
theorem fa85_0 (b off : Nat) : afield tb 85 (.pointer (some ⟨b, off, none⟩)) 0 = some (.pointer (some ⟨b, off + 0, none⟩)) := by kernel_rfl
theorem fp85_0 (c0 c1 c2 c3 : Value) : apick tb 85 (.agg #[c0, c1, c2, c3]) 0 = some c0 := by kernel_rfl
theorem fa85_1 (b off : Nat) : afield tb 85 (.pointer (some ⟨b, off, none⟩)) 1 = some (.pointer (some ⟨b, off + 1, none⟩)) := by kernel_rfl
theorem fp85_1 (c0 c1 c2 c3 : Value) : apick tb 85 (.agg #[c0, c1, c2, c3]) 1 = some c1 := by kernel_rfl
theorem fa85_2 (b off : Nat) : afield tb 85 (.pointer (some ⟨b, off, none⟩)) 2 = some (.pointer (some ⟨b, off + 2, none⟩)) := by kernel_rfl
theorem fp85_2 (c0 c1 c2 c3 : Value) : apick tb 85 (.agg #[c0, c1, c2, c3]) 2 = some c2 := by kernel_rfl
theorem fa85_3 (b off : Nat) : afield tb 85 (.pointer (some ⟨b, off, none⟩)) 3 = some (.pointer (some ⟨b, off + 3, none⟩)) := by kernel_rfl
theorem fp85_3 (c0 c1 c2 c3 : Value) : apick tb 85 (.agg #[c0, c1, c2, c3]) 3 = some c3 := by kernel_rfl
theorem fa86_0 (b off : Nat) : afield tb 86 (.pointer (some ⟨b, off, none⟩)) 0 = some (.pointer (some ⟨b, off + 0, none⟩)) := by kernel_rfl
theorem fp86_0 (c0 c1 c2 c3 : Value) : apick tb 86 (.agg #[c0, c1, c2, c3]) 0 = some c0 := by kernel_rfl
theorem fa86_1 (b off : Nat) : afield tb 86 (.pointer (some ⟨b, off, none⟩)) 1 = some (.pointer (some ⟨b, off + 1, none⟩)) := by kernel_rfl
theorem fp86_1 (c0 c1 c2 c3 : Value) : apick tb 86 (.agg #[c0, c1, c2, c3]) 1 = some c1 := by kernel_rfl
theorem fa86_2 (b off : Nat) : afield tb 86 (.pointer (some ⟨b, off, none⟩)) 2 = some (.pointer (some ⟨b, off + 2, none⟩)) := by kernel_rfl
theorem fp86_2 (c0 c1 c2 c3 : Value) : apick tb 86 (.agg #[c0, c1, c2, c3]) 2 = some c2 := by kernel_rfl
theorem fa86_3 (b off : Nat) : afield tb 86 (.pointer (some ⟨b, off, none⟩)) 3 = some (.pointer (some ⟨b, off + 3, none⟩)) := by kernel_rfl
theorem fp86_3 (c0 c1 c2 c3 : Value) : apick tb 86 (.agg #[c0, c1, c2, c3]) 3 = some c3 := by kernel_rfl
theorem fa97_0 (b off : Nat) : afield tb 97 (.pointer (some ⟨b, off, none⟩)) 0 = some (.pointer (some ⟨b, off + 0, none⟩)) := by kernel_rfl
theorem fp97_0 (c0 c1 c2 c3 c4 c5 c6 c7 c8 c9 c10 : Value) : apick tb 97 (.agg #[c0, c1, c2, c3, c4, c5, c6, c7, c8, c9, c10]) 0 = some c0 := by kernel_rfl
theorem fa97_1 (b off : Nat) : afield tb 97 (.pointer (some ⟨b, off, none⟩)) 1 = some (.pointer (some ⟨b, off + 1, none⟩)) := by kernel_rfl
theorem fp97_1 (c0 c1 c2 c3 c4 c5 c6 c7 c8 c9 c10 : Value) : apick tb 97 (.agg #[c0, c1, c2, c3, c4, c5, c6, c7, c8, c9, c10]) 1 = some c1 := by kernel_rfl
theorem fa97_2 (b off : Nat) : afield tb 97 (.pointer (some ⟨b, off, none⟩)) 2 = some (.pointer (some ⟨b, off + 2, none⟩)) := by kernel_rfl
theorem fp97_2 (c0 c1 c2 c3 c4 c5 c6 c7 c8 c9 c10 : Value) : apick tb 97 (.agg #[c0, c1, c2, c3, c4, c5, c6, c7, c8, c9, c10]) 2 = some c2 := by kernel_rfl
theorem fa97_3 (b off : Nat) : afield tb 97 (.pointer (some ⟨b, off, none⟩)) 3 = some (.pointer (some ⟨b, off + 3, none⟩)) := by kernel_rfl
theorem fp97_3 (c0 c1 c2 c3 c4 c5 c6 c7 c8 c9 c10 : Value) : apick tb 97 (.agg #[c0, c1, c2, c3, c4, c5, c6, c7, c8, c9, c10]) 3 = some c3 := by kernel_rfl
theorem fa97_4 (b off : Nat) : afield tb 97 (.pointer (some ⟨b, off, none⟩)) 4 = some (.pointer (some ⟨b, off + 4, none⟩)) := by kernel_rfl
theorem fp97_4 (c0 c1 c2 c3 c4 c5 c6 c7 c8 c9 c10 : Value) : apick tb 97 (.agg #[c0, c1, c2, c3, c4, c5, c6, c7, c8, c9, c10]) 4 = some c4 := by kernel_rfl
theorem fa97_5 (b off : Nat) : afield tb 97 (.pointer (some ⟨b, off, none⟩)) 5 = some (.pointer (some ⟨b, off + 5, none⟩)) := by kernel_rfl
theorem fp97_5 (c0 c1 c2 c3 c4 c5 c6 c7 c8 c9 c10 : Value) : apick tb 97 (.agg #[c0, c1, c2, c3, c4, c5, c6, c7, c8, c9, c10]) 5 = some c5 := by kernel_rfl
theorem fa97_6 (b off : Nat) : afield tb 97 (.pointer (some ⟨b, off, none⟩)) 6 = some (.pointer (some ⟨b, off + 6, none⟩)) := by kernel_rfl
theorem fp97_6 (c0 c1 c2 c3 c4 c5 c6 c7 c8 c9 c10 : Value) : apick tb 97 (.agg #[c0, c1, c2, c3, c4, c5, c6, c7, c8, c9, c10]) 6 = some c6 := by kernel_rfl
theorem fa97_7 (b off : Nat) : afield tb 97 (.pointer (some ⟨b, off, none⟩)) 7 = some (.pointer (some ⟨b, off + 7, none⟩)) := by kernel_rfl
theorem fp97_7 (c0 c1 c2 c3 c4 c5 c6 c7 c8 c9 c10 : Value) : apick tb 97 (.agg #[c0, c1, c2, c3, c4, c5, c6, c7, c8, c9, c10]) 7 = some c7 := by kernel_rfl
theorem fa97_8 (b off : Nat) : afield tb 97 (.pointer (some ⟨b, off, none⟩)) 8 = some (.pointer (some ⟨b, off + 8, none⟩)) := by kernel_rfl
theorem fp97_8 (c0 c1 c2 c3 c4 c5 c6 c7 c8 c9 c10 : Value) : apick tb 97 (.agg #[c0, c1, c2, c3, c4, c5, c6, c7, c8, c9, c10]) 8 = some c8 := by kernel_rfl
theorem fa97_9 (b off : Nat) : afield tb 97 (.pointer (some ⟨b, off, none⟩)) 9 = some (.pointer (some ⟨b, off + 9, none⟩)) := by kernel_rfl
theorem fp97_9 (c0 c1 c2 c3 c4 c5 c6 c7 c8 c9 c10 : Value) : apick tb 97 (.agg #[c0, c1, c2, c3, c4, c5, c6, c7, c8, c9, c10]) 9 = some c9 := by kernel_rfl
theorem fa97_10 (b off : Nat) : afield tb 97 (.pointer (some ⟨b, off, none⟩)) 10 = some (.pointer (some ⟨b, off + 10, none⟩)) := by kernel_rfl
theorem fp97_10 (c0 c1 c2 c3 c4 c5 c6 c7 c8 c9 c10 : Value) : apick tb 97 (.agg #[c0, c1, c2, c3, c4, c5, c6, c7, c8, c9, c10]) 10 = some c10 := by kernel_rfl
theorem fa98_0 (b off : Nat) : afield tb 98 (.pointer (some ⟨b, off, none⟩)) 0 = some (.pointer (some ⟨b, off + 0, none⟩)) := by kernel_rfl
theorem fp98_0 (c0 c1 c2 c3 c4 c5 c6 c7 c8 c9 c10 : Value) : apick tb 98 (.agg #[c0, c1, c2, c3, c4, c5, c6, c7, c8, c9, c10]) 0 = some c0 := by kernel_rfl
theorem fa98_1 (b off : Nat) : afield tb 98 (.pointer (some ⟨b, off, none⟩)) 1 = some (.pointer (some ⟨b, off + 1, none⟩)) := by kernel_rfl
theorem fp98_1 (c0 c1 c2 c3 c4 c5 c6 c7 c8 c9 c10 : Value) : apick tb 98 (.agg #[c0, c1, c2, c3, c4, c5, c6, c7, c8, c9, c10]) 1 = some c1 := by kernel_rfl
theorem fa98_2 (b off : Nat) : afield tb 98 (.pointer (some ⟨b, off, none⟩)) 2 = some (.pointer (some ⟨b, off + 2, none⟩)) := by kernel_rfl
theorem fp98_2 (c0 c1 c2 c3 c4 c5 c6 c7 c8 c9 c10 : Value) : apick tb 98 (.agg #[c0, c1, c2, c3, c4, c5, c6, c7, c8, c9, c10]) 2 = some c2 := by kernel_rfl
theorem fa98_3 (b off : Nat) : afield tb 98 (.pointer (some ⟨b, off, none⟩)) 3 = some (.pointer (some ⟨b, off + 3, none⟩)) := by kernel_rfl
theorem fp98_3 (c0 c1 c2 c3 c4 c5 c6 c7 c8 c9 c10 : Value) : apick tb 98 (.agg #[c0, c1, c2, c3, c4, c5, c6, c7, c8, c9, c10]) 3 = some c3 := by kernel_rfl
theorem fa98_4 (b off : Nat) : afield tb 98 (.pointer (some ⟨b, off, none⟩)) 4 = some (.pointer (some ⟨b, off + 4, none⟩)) := by kernel_rfl
theorem fp98_4 (c0 c1 c2 c3 c4 c5 c6 c7 c8 c9 c10 : Value) : apick tb 98 (.agg #[c0, c1, c2, c3, c4, c5, c6, c7, c8, c9, c10]) 4 = some c4 := by kernel_rfl
theorem fa98_5 (b off : Nat) : afield tb 98 (.pointer (some ⟨b, off, none⟩)) 5 = some (.pointer (some ⟨b, off + 5, none⟩)) := by kernel_rfl
theorem fp98_5 (c0 c1 c2 c3 c4 c5 c6 c7 c8 c9 c10 : Value) : apick tb 98 (.agg #[c0, c1, c2, c3, c4, c5, c6, c7, c8, c9, c10]) 5 = some c5 := by kernel_rfl
theorem fa98_6 (b off : Nat) : afield tb 98 (.pointer (some ⟨b, off, none⟩)) 6 = some (.pointer (some ⟨b, off + 6, none⟩)) := by kernel_rfl
theorem fp98_6 (c0 c1 c2 c3 c4 c5 c6 c7 c8 c9 c10 : Value) : apick tb 98 (.agg #[c0, c1, c2, c3, c4, c5, c6, c7, c8, c9, c10]) 6 = some c6 := by kernel_rfl
theorem fa98_7 (b off : Nat) : afield tb 98 (.pointer (some ⟨b, off, none⟩)) 7 = some (.pointer (some ⟨b, off + 7, none⟩)) := by kernel_rfl
theorem fp98_7 (c0 c1 c2 c3 c4 c5 c6 c7 c8 c9 c10 : Value) : apick tb 98 (.agg #[c0, c1, c2, c3, c4, c5, c6, c7, c8, c9, c10]) 7 = some c7 := by kernel_rfl
theorem fa98_8 (b off : Nat) : afield tb 98 (.pointer (some ⟨b, off, none⟩)) 8 = some (.pointer (some ⟨b, off + 8, none⟩)) := by kernel_rfl
theorem fp98_8 (c0 c1 c2 c3 c4 c5 c6 c7 c8 c9 c10 : Value) : apick tb 98 (.agg #[c0, c1, c2, c3, c4, c5, c6, c7, c8, c9, c10]) 8 = some c8 := by kernel_rfl
theorem fa98_9 (b off : Nat) : afield tb 98 (.pointer (some ⟨b, off, none⟩)) 9 = some (.pointer (some ⟨b, off + 9, none⟩)) := by kernel_rfl
theorem fp98_9 (c0 c1 c2 c3 c4 c5 c6 c7 c8 c9 c10 : Value) : apick tb 98 (.agg #[c0, c1, c2, c3, c4, c5, c6, c7, c8, c9, c10]) 9 = some c9 := by kernel_rfl
theorem fa98_10 (b off : Nat) : afield tb 98 (.pointer (some ⟨b, off, none⟩)) 10 = some (.pointer (some ⟨b, off + 10, none⟩)) := by kernel_rfl
theorem fp98_10 (c0 c1 c2 c3 c4 c5 c6 c7 c8 c9 c10 : Value) : apick tb 98 (.agg #[c0, c1, c2, c3, c4, c5, c6, c7, c8, c9, c10]) 10 = some c10 := by kernel_rfl
attribute [go_sem] ty2 ty3 ty4 ty5 ty6 ty7 ty8 ty9 ty10 ty11 ty12 ty13 ty14 ty15 ty16 ty17 ty18 ty19 ty21 ty22 ty23 ty24 ty25 ty26 ty27 ty28 ty42 ty53 ty54 ty55 ty56 ty64 ty72 ty74 ty75 ty79 ty81 ty85 ty86 ty87 ty88 ty89 ty91 ty92 ty94 ty95 ty96 ty97 ty98 ty99 lp2 sp2 lp3 sp3 lp4 sp4 lp5 sp5 lp6 sp6 lp7 sp7 lp8 sp8 lp9 sp9 lp10 sp10 lp11 sp11 lp12 sp12 lp13 sp13 lp14 sp14 lp15 sp15 lp16 sp16 lp17 sp17 lp18 sp18 lp19 sp19 lp21 sp21 lp22 sp22 lp23 sp23 lp24 sp24 lp25 sp25 lp26 sp26 lp27 sp27 lp28 sp28 lp42 sp42 lp53 sp53 lp54 sp54 lp55 sp55 lp56 sp56 lp64 sp64 lp72 sp72 lp74 sp74 lp75 sp75 lp79 sp79 lp81 sp81 lp85 sp85 lp86 sp86 lp91 sp91 lp92 sp92 lp94 sp94 lp95 sp95 lp96 sp96 lp97 sp97 lp98 sp98 lp99 sp99 fa7_0 fp7_0 fa7_1 fp7_1 fa7_2 fp7_2 fa7_3 fp7_3 fa8_0 fp8_0 fa8_1 fp8_1 fa8_2 fp8_2 fa8_3 fp8_3 fa13_0 fp13_0 fa13_1 fp13_1 fa14_0 fp14_0 fa14_1 fp14_1 fa18_0 fp18_0 fa19_0 fp19_0 fa24_0 fp24_0 fa24_1 fp24_1 fa25_0 fp25_0 fa25_1 fp25_1 fa26_0 fp26_0 fa26_1 fp26_1 fa26_2 fp26_2 fa27_0 fp27_0 fa27_1 fp27_1 fa27_2 fp27_2 fa55_0 fp55_0 fa55_1 fp55_1 fa56_0 fp56_0 fa56_1 fp56_1 fa85_0 fp85_0 fa85_1 fp85_1 fa85_2 fp85_2 fa85_3 fp85_3 fa86_0 fp86_0 fa86_1 fp86_1 fa86_2 fp86_2 fa86_3 fp86_3 fa97_0 fp97_0 fa97_1 fp97_1 fa97_2 fp97_2 fa97_3 fp97_3 fa97_4 fp97_4 fa97_5 fp97_5 fa97_6 fp97_6 fa97_7 fp97_7 fa97_8 fp97_8 fa97_9 fp97_9 fa97_10 fp97_10 fa98_0 fp98_0 fa98_1 fp98_1 fa98_2 fp98_2 fa98_3 fp98_3 fa98_4 fp98_4 fa98_5 fp98_5 fa98_6 fp98_6 fa98_7 fp98_7 fa98_8 fp98_8 fa98_9 fp98_9 fa98_10 fp98_10
end Go.Proofs.A

/- Spans in a block: how they are read, written, compared, swapped. -/
set_option linter.unusedVariables false
set_option maxRecDepth 8000
set_option maxHeartbeats 4000000
set_option linter.unusedSimpArgs false
namespace Go.Proofs.A
open Go Go.Ab
attribute [go_sem] IntWalk.i64_in
abbrev Sp := Int × Int
def spc (d : Array Sp) : Blk := d.toList.flatMap fun x => [.int .i64 x.1, .int .i64 x.2]
def spv (x : Sp) : Value := .agg #[.int .i64 x.1, .int .i64 x.2]
def ltS (x y : Sp) : Bool := decide (x.1 < y.1)
/-- A row of spans that lies in a block of its own. -/
structure SpAt (H : AH) (b : Nat) (d : Array Sp) : Prop where
  get : H.get b = some (spc d)
  ro : H.ro ≤ b
  bd : d.size ≤ 1000000000
theorem flat_len (l : List Sp) : (l.flatMap fun x : Sp => ([.int .i64 x.1, .int .i64 x.2] : List Value)).length = l.length * 2 := by
  induction l with
  | nil => rfl
  | cons x l ih => simp only [List.flatMap_cons, List.length_append, List.length_cons, List.length_nil, ih]; omega
theorem flat_get : ∀ (l : List Sp) (i : Nat) (h : i < l.length), ((l.flatMap fun x : Sp => ([.int .i64 x.1, .int .i64 x.2] : List Value)).drop (i * 2)).take 2 = [.int .i64 l[i].1, .int .i64 l[i].2]
  | x :: l, 0, h => by simp
  | x :: l, i + 1, h => by
    simp only [List.flatMap_cons]
    rw [show (i + 1) * 2 = 2 + i * 2 by omega, ← List.drop_drop]
    have := flat_get l i (by simpa using h)
    simpa using this
theorem flat_set : ∀ (l : List Sp) (i : Nat) (x : Sp) (h : i < l.length), splice (l.flatMap fun x : Sp => ([.int .i64 x.1, .int .i64 x.2] : List Value)) (i * 2) [.int .i64 x.1, .int .i64 x.2] = (l.set i x).flatMap fun x : Sp => ([.int .i64 x.1, .int .i64 x.2] : List Value)
  | y :: l, 0, x, h => by simp [splice]
  | y :: l, i + 1, x, h => by
    have := flat_set l i x (by simpa using h)
    simp only [List.flatMap_cons, List.set_cons_succ]
    rw [← this]
    simp only [splice]
    rw [show (i + 1) * 2 = 2 + i * 2 by omega]
    simp [List.take_append, List.drop_append, Nat.add_sub_cancel_left]
    rw [show 2 + i * 2 = i * 2 + 1 + 1 by omega, List.take_succ_cons, List.take_succ_cons]
    simp
theorem spc_len (d : Array Sp) : (spc d).length = d.size * 2 := by rw [spc, flat_len]; simp
theorem bang {d : Array Sp} {i : Nat} (h : i < d.size) : d[i]! = d[i] := by simp [h]
theorem sp_ix (b n : Nat) (z : Int) (hz : 0 ≤ z ∧ z < n) (k : IntKind) : aindex tb 54 (.slice (some ⟨b, 0, none⟩) n 2) (.int k z) = some (elp (some ⟨b, 0, none⟩) 2 z 0) := by
  simp only [aindex, ty54, ty56]
  rw [if_pos ⟨trivial, hz.1, by omega⟩]
  simp [elp]
theorem sp_ld {H : AH} {b : Nat} {d : Array Sp} (h : SpAt H b d) (z : Int) (hz : 0 ≤ z ∧ z < d.size) : aload tb 56 (elp (some ⟨b, 0, none⟩) 2 z 0) H.get = some (spv d[z.toNat]!) := by
  have hl := spc_len d
  have hi : z.toNat < d.size := by omega
  simp only [elp, aload, ty56, h.get, isAggD, if_true, Nat.zero_add, Nat.add_zero]
  rw [if_pos (by omega)]
  have := flat_get d.toList z.toNat (by simpa using hi)
  simp only [spc] at this ⊢
  rw [this, bang hi]
  simp [spv]
theorem sp_st {H : AH} {b : Nat} {d : Array Sp} (h : SpAt H b d) (z : Int) (hz : 0 ≤ z ∧ z < d.size) (x : Sp) : astore tb 56 (elp (some ⟨b, 0, none⟩) 2 z 0) (spv x) H = some (H.put b (some (spc (d.setIfInBounds z.toNat x)))) ∧ SpAt (H.put b (some (spc (d.setIfInBounds z.toNat x)))) b (d.setIfInBounds z.toNat x) ∧ Fr b H (H.put b (some (spc (d.setIfInBounds z.toNat x)))) := by
  have hl := spc_len d
  have hi : z.toNat < d.size := by omega
  have hb := AH.lt_of_get h.get
  refine ⟨?_, ⟨by rw [AH.get_put _ _ _ _ hb, if_pos rfl], h.ro, by simpa using h.bd⟩, Fr.put b H hb _⟩
  simp only [elp, astore, ty56, h.get, Nat.zero_add, Nat.add_zero]
  have ha : isA (spv x) = true := rfl
  have hc : (spv x).cells.toList = [.int .i64 x.1, .int .i64 x.2] := rfl
  have hs : (spv x).cells.size = 2 := rfl
  rw [if_pos (by simp [ha, hs, h.ro]; omega), hc]
  have := flat_set d.toList z.toNat x (by simpa using hi)
  simp only [spc] at this ⊢
  rw [this]
  simp
theorem SpAt.ext {H H' : AH} {b : Nat} {d : Array Sp} (h : SpAt H b d) (hE : Ext H H') : SpAt H' b d := ⟨hE.get _ _ h.get, by rw [hE.ro]; exact h.ro, h.bd⟩
theorem isNaN_ok (H : AH) (x : Int) : Runs tb 39 [.int .i64 x] H (fun r H' => r = .bool false ∧ H' = H) := by
  refine Runs_fn (fn := Try.f39) [.tmp 2] [0, 2] [] 3000 (by kernel_rfl) rfl (by kernel_rfl) (by kernel_rfl) rfl ?_; simp only [pad, argAt]
  simp (disch := omega) only [go_sem, Nat.reduceEqDiff, Nat.reduceAdd, ↓reduceIte, get_pushB, get_putB, pickB_t, pickB_f, eqB_t, eqB_f, ltB_t, leB_t, AH.size_push, AH.size_put, AH.ro_push, AH.ro_put, ne_eq, not_true_eq_false, decide_false, and_self]
theorem Compare_ok (H : AH) (x y : Int) : Runs tb 34 [.int .i64 x, .int .i64 y] H (fun r H' => r = .int .i64 (if x < y then -1 else if y < x then 1 else 0) ∧ H' = H) := by
  refine Runs_fn (fn := Try.f34) [.tmp 4] [0, 1, 4, 5, 6] [] 3000 (by kernel_rfl) rfl (by kernel_rfl) (by kernel_rfl) rfl ?_; simp only [pad, argAt]
  simp (disch := omega) only [go_sem, Nat.reduceEqDiff, Nat.reduceAdd, ↓reduceIte, get_pushB, get_putB, pickB_t, pickB_f, eqB_t, eqB_f, ltB_t, leB_t, AH.size_push, AH.size_put, AH.ro_push, AH.ro_put]
  refine callW_of (isNaN_ok ..) ?_
  rintro r G ⟨rfl, rfl⟩
  simp (disch := omega) only [go_sem, Nat.reduceEqDiff, Nat.reduceAdd, ↓reduceIte, get_pushB, get_putB, pickB_t, pickB_f, eqB_t, eqB_f, ltB_t, leB_t, AH.size_push, AH.size_put, AH.ro_push, AH.ro_put]
  refine callW_of (isNaN_ok ..) ?_
  rintro r G2 ⟨rfl, rfl⟩
  simp (disch := omega) only [go_sem, Nat.reduceEqDiff, Nat.reduceAdd, ↓reduceIte, get_pushB, get_putB, pickB_t, pickB_f, eqB_t, eqB_f, ltB_t, leB_t, AH.size_push, AH.size_put, AH.ro_push, AH.ro_put]
  refine Split.mk (fun h => ?_) (fun h => ?_)
  · simp (disch := omega) only [go_sem, Nat.reduceEqDiff, Nat.reduceAdd, ↓reduceIte, get_pushB, get_putB, pickB_t, pickB_f, eqB_t, eqB_f, ltB_t, leB_t, AH.size_push, AH.size_put, AH.ro_push, AH.ro_put]
    exact ⟨by rw [if_pos h], trivial⟩
  · simp (disch := omega) only [go_sem, Nat.reduceEqDiff, Nat.reduceAdd, ↓reduceIte, get_pushB, get_putB, pickB_t, pickB_f, eqB_t, eqB_f, ltB_t, leB_t, AH.size_push, AH.size_put, AH.ro_push, AH.ro_put]
    refine Split.mk (fun h2 => ?_) (fun h2 => ?_)
    · simp (disch := omega) only [go_sem, Nat.reduceEqDiff, Nat.reduceAdd, ↓reduceIte, get_pushB, get_putB, pickB_t, pickB_f, eqB_t, eqB_f, ltB_t, leB_t, AH.size_push, AH.size_put, AH.ro_push, AH.ro_put]
      exact ⟨by rw [if_neg h, if_pos (by omega)], trivial⟩
    · simp (disch := omega) only [go_sem, Nat.reduceEqDiff, Nat.reduceAdd, ↓reduceIte, get_pushB, get_putB, pickB_t, pickB_f, eqB_t, eqB_f, ltB_t, leB_t, AH.size_push, AH.size_put, AH.ro_push, AH.ro_put]
      exact ⟨by rw [if_neg h, if_neg (by omega)], trivial⟩
/-- A comparison of two spans: it makes memory, and leaves what was there. -/
theorem cmp_ok (H : AH) (x y : Sp) : Runs tb 33 [spv x, spv y] H (fun r H' => ∃ c : Int, r = .int .i64 c ∧ (c < 0 ↔ x.1 < y.1) ∧ -1 ≤ c ∧ c ≤ 1 ∧ Ext H H') := by
  unfold spv
  refine Runs_fn (fn := Try.f33) [.tmp 4] [0, 1, 2, 3, 4] [] 3000 (by kernel_rfl) rfl (by kernel_rfl) (by kernel_rfl) rfl ?_; simp only [pad, argAt]
  simp (disch := omega) only [go_sem, Nat.reduceEqDiff, Nat.reduceAdd, ↓reduceIte, get_pushB, get_putB, pickB_t, pickB_f, eqB_t, eqB_f, ltB_t, leB_t, AH.size_push, AH.size_put, AH.ro_push, AH.ro_put]
  refine callW_gen ?_
  intro G hG
  have hE : Ext H G := by rw [hG]; exact (Ext.push _ _).pushed _
  clear hG
  refine callW_of (Compare_ok ..) ?_
  rintro r G2 ⟨rfl, rfl⟩
  simp (disch := omega) only [go_sem, Nat.reduceEqDiff, Nat.reduceAdd, ↓reduceIte, get_pushB, get_putB, pickB_t, pickB_f, eqB_t, eqB_f, ltB_t, leB_t, AH.size_push, AH.size_put, AH.ro_push, AH.ro_put]
  refine ⟨_, rfl, ?_, ?_, ?_, hE⟩
  · split <;> (try split) <;> omega
  · split <;> (try split) <;> omega
  · split <;> (try split) <;> omega
/-- Two spans change places. -/
theorem swp_def (d : Array Sp) (i j : Nat) : Sort.swp d i j = (d.setIfInBounds i d[j]!).setIfInBounds j d[i]! := rfl
theorem swp_size (d : Array Sp) (i j : Nat) : (Sort.swp d i j).size = d.size := by simp [Sort.swp]
end Go.Proofs.A

/- Sorting a few: insertion. -/
set_option linter.unusedVariables false
set_option maxRecDepth 8000
set_option maxHeartbeats 4000000
set_option linter.unusedSimpArgs false
namespace Go.Proofs.A
open Go Go.Ab
theorem insInner_size (a j : Nat) (d : Array Sp) : (Sort.insInner ltS a j d).size = d.size := by
  induction j generalizing d with
  | zero => rfl
  | succ j ih => simp only [Sort.insInner]; split <;> simp [ih, swp_size]
theorem insOuter_step (a b i : Nat) (d : Array Sp) (h : i < b) : Sort.insOuter ltS a b i d = Sort.insOuter ltS a b (i + 1) (Sort.insInner ltS a i d) := by
  rw [Sort.insOuter, if_pos h]
theorem insOuter_end (a b i : Nat) (d : Array Sp) (h : ¬ i < b) : Sort.insOuter ltS a b i d = d := by
  rw [Sort.insOuter, if_neg h]
/-- The value that compares. -/
abbrev cmpV : Value := .func (.func 33) #[] #[]
theorem insertion_ok (H : AH) (bx : Nat) (d : Array Sp) (a b : Nat) (h : SpAt H bx d) (hab : a ≤ b) (hb : b ≤ d.size) :
    Runs tb 40 [.slice (some ⟨bx, 0, none⟩) d.size 2, .int .i64 a, .int .i64 b, cmpV] H (fun r H' => r = .tuple #[] ∧ SpAt H' bx (Sort.insertionSort ltS d a b) ∧ Fr bx H H') := by
  have hbd := h.bd
  refine Runs_fn (fn := Try.f40) [] [0, 1, 2, 3, 8, 9] [] 3000 (by kernel_rfl) rfl (by kernel_rfl) (by kernel_rfl) rfl ?_; simp only [pad, argAt]
  simp (disch := omega) only [go_sem, Nat.reduceEqDiff, Nat.reduceAdd, ↓reduceIte, get_pushB, get_putB, pickB_t, pickB_f, eqB_t, eqB_f, ltB_t, leB_t, AH.size_push, AH.size_put, AH.ro_push, AH.ro_put]
  refine Sat_loop 3000 (fun k H' V => ∃ (i : Nat) (x : Value) (e : Array Sp), a + 1 ≤ i ∧ k = b - i ∧ SpAt H' bx e ∧ e.size = d.size ∧ Sort.insOuter ltS a b i e = Sort.insertionSort ltS d a b ∧ Fr bx H H' ∧ V = [.slice (some ⟨bx, 0, none⟩) d.size 2, .int .i64 a, .int .i64 b, cmpV, .int .i64 i, x]) (b - (a + 1)) ⟨a + 1, _, d, by omega, rfl, h, rfl, rfl, Fr.refl _ _, by rw [Int.natCast_add]; rfl⟩ ?_
  rintro k H' V ⟨i, x, e, hi, rfl, he, hes, hspec, hF, rfl⟩ ih
  simp (disch := omega) only [go_sem, Nat.reduceEqDiff, Nat.reduceAdd, ↓reduceIte, get_pushB, get_putB, pickB_t, pickB_f, eqB_t, eqB_f, ltB_t, leB_t, AH.size_push, AH.size_put, AH.ro_push, AH.ro_put]
  refine Split.mk (fun h1 => ?_) (fun h1 => ?_)
  · have hi2 : i < b := by omega
    rw [insOuter_step _ _ _ _ hi2] at hspec
    simp (disch := omega) only [go_sem, Nat.reduceEqDiff, Nat.reduceAdd, ↓reduceIte, get_pushB, get_putB, pickB_t, pickB_f, eqB_t, eqB_f, ltB_t, leB_t, AH.size_push, AH.size_put, AH.ro_push, AH.ro_put]
    refine Sat_loop 3000 (fun k H2 V => ∃ (j : Nat) (e2 : Array Sp), a ≤ j ∧ j ≤ i ∧ k = j ∧ SpAt H2 bx e2 ∧ e2.size = d.size ∧ Sort.insInner ltS a j e2 = Sort.insInner ltS a i e ∧ Fr bx H H2 ∧ V = [.slice (some ⟨bx, 0, none⟩) d.size 2, .int .i64 a, .int .i64 b, cmpV, .int .i64 i, .int .i64 j]) i ⟨i, e, by omega, by omega, rfl, he, hes, rfl, hF, rfl⟩ ?_
    clear hF he
    rintro kk H2 V ⟨j, e2, hj1, hj2, hkj, he2, hes2, hsp2, hF, rfl⟩ ih2
    simp (disch := omega) only [go_sem, Nat.reduceEqDiff, Nat.reduceAdd, ↓reduceIte, get_pushB, get_putB, pickB_t, pickB_f, eqB_t, eqB_f, ltB_t, leB_t, AH.size_push, AH.size_put, AH.ro_push, AH.ro_put]
    refine SplitG.mk (fun h2 => ?_) (fun h2 => ?_)
    · have hj0 : a < j := by omega
      obtain ⟨j, rfl⟩ : ∃ m, j = m + 1 := ⟨j - 1, by omega⟩
      have l1 := sp_ld he2 ((j + 1 : Nat) : Int) (by omega)
      have l2 := sp_ld he2 ((j : Nat) : Int) (by omega)
      have x1 := sp_ix bx d.size ((j + 1 : Nat) : Int) (by omega) .i64
      have x2 := sp_ix bx d.size ((j : Nat) : Int) (by omega) .i64
      simp only [Int.toNat_natCast] at l1 l2
      have ej : (((j + 1 : Nat) : Int) - 1) = (j : Int) := by omega
      simp (disch := omega) only [go_sem, Nat.reduceEqDiff, Nat.reduceAdd, ↓reduceIte, get_pushB, get_putB, pickB_t, pickB_f, eqB_t, eqB_f, ltB_t, leB_t, AH.size_push, AH.size_put, AH.ro_push, AH.ro_put, x1, x2, l1, l2, ej]
      refine callW_of (cmp_ok H2 _ _) ?_
      rintro r H3 ⟨c, rfl, hc, hc1, hc2, hE3⟩
      have he3 := he2.ext hE3
      have hF3 := hF.trans (Fr.of_ext bx hE3)
      simp (disch := omega) only [go_sem, Nat.reduceEqDiff, Nat.reduceAdd, ↓reduceIte, get_pushB, get_putB, pickB_t, pickB_f, eqB_t, eqB_f, ltB_t, leB_t, AH.size_push, AH.size_put, AH.ro_push, AH.ro_put]
      refine Split.mk (fun h3 => ?_) (fun h3 => ?_)
      · have l1 := sp_ld he3 ((j + 1 : Nat) : Int) (by omega)
        have l2 := sp_ld he3 ((j : Nat) : Int) (by omega)
        simp only [Int.toNat_natCast] at l1 l2
        obtain ⟨s1, he4, hF4⟩ := sp_st he3 ((j + 1 : Nat) : Int) (by omega) e2[j]!
        simp only [Int.toNat_natCast] at s1 he4 hF4
        obtain ⟨s2, he5, hF5⟩ := sp_st he4 ((j : Nat) : Int) (by simp; omega) e2[j + 1]!
        simp only [Int.toNat_natCast] at s2 he5 hF5
        simp (disch := omega) only [go_sem, Nat.reduceEqDiff, Nat.reduceAdd, ↓reduceIte, get_pushB, get_putB, pickB_t, pickB_f, eqB_t, eqB_f, ltB_t, leB_t, AH.size_push, AH.size_put, AH.ro_push, AH.ro_put, x1, x2, l1, l2, ej, s1, s2]
        refine ih2 _ _ _ ?_ ⟨j, _, by omega, by omega, rfl, he5, by simp; exact hes2, ?_, (hF3.trans hF4).trans hF5, rfl⟩
        · omega
        · rw [← hsp2]
          have hlt : ltS e2[j + 1]! e2[j]! = true := by simp only [ltS, decide_eq_true_eq]; exact hc.1 h3
          conv => rhs; rw [Sort.insInner]
          rw [if_pos (by rw [hlt]; simp; omega)]
          rfl
      · have hlt : ltS e2[j + 1]! e2[j]! = false := by
          simp only [ltS, decide_eq_false_iff_not]
          exact fun h => h3 (hc.2 h)
        have hend : Sort.insInner ltS a (j + 1) e2 = e2 := by
          rw [Sort.insInner, if_neg (by rw [hlt]; simp)]
        rw [← hsp2, hend] at hspec
        simp (disch := omega) only [go_sem, Nat.reduceEqDiff, Nat.reduceAdd, ↓reduceIte, get_pushB, get_putB, pickB_t, pickB_f, eqB_t, eqB_f, ltB_t, leB_t, AH.size_push, AH.size_put, AH.ro_push, AH.ro_put]
        refine ih _ _ _ ?_ ⟨i + 1, _, e2, by omega, rfl, he3, hes2, hspec, hF3, rfl⟩
        omega
    · have hja : j = a := by omega
      have hend : Sort.insInner ltS a j e2 = e2 := by
        cases j with
        | zero => rfl
        | succ j => rw [Sort.insInner, if_neg (by simp; omega)]
      rw [← hsp2, hend] at hspec
      simp (disch := omega) only [go_sem, Nat.reduceEqDiff, Nat.reduceAdd, ↓reduceIte, get_pushB, get_putB, pickB_t, pickB_f, eqB_t, eqB_f, ltB_t, leB_t, AH.size_push, AH.size_put, AH.ro_push, AH.ro_put]
      refine ih _ _ _ ?_ ⟨i + 1, _, e2, by omega, rfl, he2, hes2, hspec, hF, rfl⟩
      omega
  · rw [insOuter_end _ _ _ _ (by omega)] at hspec
    simp (disch := omega) only [go_sem, Nat.reduceEqDiff, Nat.reduceAdd, ↓reduceIte, get_pushB, get_putB, pickB_t, pickB_f, eqB_t, eqB_f, ltB_t, leB_t, AH.size_push, AH.size_put, AH.ro_push, AH.ro_put]
    rw [← hspec]
    exact ⟨he, hF⟩
end Go.Proofs.A

/- Sorting: the pivot. -/
set_option linter.unusedVariables false
set_option maxRecDepth 8000
set_option maxHeartbeats 4000000
set_option linter.unusedSimpArgs false
namespace Go.Proofs.A
open Go Go.Ab
theorem SpAt.fr {H H' : AH} {b s : Nat} {d : Array Sp} (h : SpAt H b d) (hF : Fr s H H') (hne : s ≠ b) : SpAt H' b d := ⟨hF.get _ _ (fun e => hne e.symm) h.get, by rw [hF.ro]; exact h.ro, h.bd⟩
abbrev SV (bx : Nat) (d : Array Sp) : Value := .slice (some ⟨bx, 0, none⟩) d.size 2
theorem order2_ok (H : AH) (bx s : Nat) (d : Array Sp) (a b n : Nat) (h : SpAt H bx d) (hs : H.get s = some [.int .i64 n]) (hne : s ≠ bx) (hro : H.ro ≤ s) (ha : a < d.size) (hb : b < d.size) (hn : n ≤ 1000) :
    Runs tb 55 [SV bx d, .int .i64 a, .int .i64 b, .pointer (some ⟨s, 0, none⟩), cmpV] H (fun r H' => r = .tuple #[.int .i64 (Sort.order2 ltS d a b n).1, .int .i64 (Sort.order2 ltS d a b n).2.1] ∧ H'.get s = some [.int .i64 (Sort.order2 ltS d a b n).2.2] ∧ Fr s H H') := by
  have hbd := h.bd
  have hsb := AH.lt_of_get hs
  unfold SV
  have x1 := sp_ix bx d.size (a : Int) (by omega) .i64
  have x2 := sp_ix bx d.size (b : Int) (by omega) .i64
  have l1 := sp_ld h (a : Int) (by omega)
  have l2 := sp_ld h (b : Int) (by omega)
  simp only [Int.toNat_natCast] at l1 l2
  refine Runs_fn (fn := Try.f55) [.tmp 10, .tmp 11] [0, 1, 2, 3, 4, 10, 11] [] 3000 (by kernel_rfl) rfl (by kernel_rfl) (by kernel_rfl) rfl ?_; simp only [pad, argAt]
  simp (disch := omega) only [go_sem, Nat.reduceEqDiff, Nat.reduceAdd, ↓reduceIte, get_pushB, get_putB, pickB_t, pickB_f, eqB_t, eqB_f, ltB_t, leB_t, AH.size_push, AH.size_put, AH.ro_push, AH.ro_put, x1, x2, l1, l2]
  refine callW_of (cmp_ok H _ _) ?_
  rintro r G ⟨c, rfl, hc, hc1, hc2, hE⟩
  have hs2 := hE.get _ _ hs
  have hr := hE.ro
  have hz := hE.size
  simp (disch := omega) only [go_sem, Nat.reduceEqDiff, Nat.reduceAdd, ↓reduceIte, get_pushB, get_putB, pickB_t, pickB_f, eqB_t, eqB_f, ltB_t, leB_t, AH.size_push, AH.size_put, AH.ro_push, AH.ro_put]
  refine Split.mk (fun h3 => ?_) (fun h3 => ?_)
  · have hlt : ltS d[b]! d[a]! = true := by simp only [ltS, decide_eq_true_eq]; exact hc.1 h3
    have e : Sort.order2 ltS d a b n = (b, a, n + 1) := by simp only [Sort.order2, hlt, if_true]
    rw [e]
    simp (disch := omega) only [go_sem, Nat.reduceEqDiff, Nat.reduceAdd, ↓reduceIte, get_pushB, get_putB, pickB_t, pickB_f, eqB_t, eqB_f, ltB_t, leB_t, AH.size_push, AH.size_put, AH.ro_push, AH.ro_put, hs2]
    exact ⟨by rw [Int.natCast_add]; rfl, (Fr.of_ext s hE).trans (Fr.put s G (by omega) _)⟩
  · have hlt : ltS d[b]! d[a]! = false := by
      simp only [ltS, decide_eq_false_iff_not]
      exact fun h => h3 (hc.2 h)
    have e : Sort.order2 ltS d a b n = (a, b, n) := by simp [Sort.order2, hlt]
    rw [e]
    simp (disch := omega) only [go_sem, Nat.reduceEqDiff, Nat.reduceAdd, ↓reduceIte, get_pushB, get_putB, pickB_t, pickB_f, eqB_t, eqB_f, ltB_t, leB_t, AH.size_push, AH.size_put, AH.ro_push, AH.ro_put]
    exact ⟨hs2, Fr.of_ext s hE⟩
theorem order2_bd (d : Array Sp) (a b n : Nat) {N : Nat} (ha : a < N) (hb : b < N) : (Sort.order2 ltS d a b n).1 < N ∧ (Sort.order2 ltS d a b n).2.1 < N ∧ (Sort.order2 ltS d a b n).2.2 ≤ n + 1 := by
  unfold Sort.order2; split <;> simp <;> omega
theorem median_ok (H : AH) (bx s : Nat) (d : Array Sp) (a b c n : Nat) (h : SpAt H bx d) (hs : H.get s = some [.int .i64 n]) (hne : s ≠ bx) (hro : H.ro ≤ s) (ha : a < d.size) (hb : b < d.size) (hc : c < d.size) (hn : n ≤ 900) :
    Runs tb 54 [SV bx d, .int .i64 a, .int .i64 b, .int .i64 c, .pointer (some ⟨s, 0, none⟩), cmpV] H (fun r H' => r = .int .i64 (Sort.median ltS d a b c n).1 ∧ H'.get s = some [.int .i64 (Sort.median ltS d a b c n).2] ∧ Fr s H H') := by
  refine Runs_fn (fn := Try.f54) [.tmp 12] [0, 1, 2, 3, 4, 5, 12] [] 3000 (by kernel_rfl) rfl (by kernel_rfl) (by kernel_rfl) rfl ?_; simp only [pad, argAt]
  simp (disch := omega) only [go_sem, Nat.reduceEqDiff, Nat.reduceAdd, ↓reduceIte, get_pushB, get_putB, pickB_t, pickB_f, eqB_t, eqB_f, ltB_t, leB_t, AH.size_push, AH.size_put, AH.ro_push, AH.ro_put]
  refine callW_of (order2_ok H bx s d a b n h hs hne hro ha hb (by omega)) ?_
  obtain ⟨b1, b2, b3⟩ := order2_bd d a b n ha hb
  rintro r G ⟨rfl, hs1, hF1⟩
  simp (disch := omega) only [go_sem, Nat.reduceEqDiff, Nat.reduceAdd, ↓reduceIte, get_pushB, get_putB, pickB_t, pickB_f, eqB_t, eqB_f, ltB_t, leB_t, AH.size_push, AH.size_put, AH.ro_push, AH.ro_put]
  refine callW_of (order2_ok G bx s d _ c _ (h.fr hF1 hne) hs1 hne (by rw [hF1.ro]; exact hro) b2 hc (by omega)) ?_
  obtain ⟨c1, c2, c3⟩ := order2_bd d (Sort.order2 ltS d a b n).2.1 c (Sort.order2 ltS d a b n).2.2 b2 hc
  rintro r G2 ⟨rfl, hs2, hF2⟩
  have hF2 := hF1.trans hF2
  simp (disch := omega) only [go_sem, Nat.reduceEqDiff, Nat.reduceAdd, ↓reduceIte, get_pushB, get_putB, pickB_t, pickB_f, eqB_t, eqB_f, ltB_t, leB_t, AH.size_push, AH.size_put, AH.ro_push, AH.ro_put]
  refine callW_of (order2_ok G2 bx s d _ _ _ (h.fr hF2 hne) hs2 hne (by rw [hF2.ro]; exact hro) b1 c1 (by omega)) ?_
  rintro r G3 ⟨rfl, hs3, hF3⟩
  simp (disch := omega) only [go_sem, Nat.reduceEqDiff, Nat.reduceAdd, ↓reduceIte, get_pushB, get_putB, pickB_t, pickB_f, eqB_t, eqB_f, ltB_t, leB_t, AH.size_push, AH.size_put, AH.ro_push, AH.ro_put]
  exact ⟨rfl, hs3, hF2.trans hF3⟩
theorem median_bd (d : Array Sp) (a b c n : Nat) {N : Nat} (ha : a < N) (hb : b < N) (hc : c < N) : (Sort.median ltS d a b c n).1 < N ∧ (Sort.median ltS d a b c n).2 ≤ n + 3 := by
  unfold Sort.median
  obtain ⟨b1, b2, b3⟩ := order2_bd d a b n ha hb
  obtain ⟨c1, c2, c3⟩ := order2_bd d (Sort.order2 ltS d a b n).2.1 c (Sort.order2 ltS d a b n).2.2 b2 hc
  have := order2_bd d _ _ ((Sort.order2 ltS d (Sort.order2 ltS d a b n).2.1 c (Sort.order2 ltS d a b n).2.2).2.2) b1 c1
  simp only
  omega
theorem medianAdj_ok (H : AH) (bx s : Nat) (d : Array Sp) (a n : Nat) (h : SpAt H bx d) (hs : H.get s = some [.int .i64 n]) (hne : s ≠ bx) (hro : H.ro ≤ s) (ha : 1 ≤ a ∧ a + 1 < d.size) (hn : n ≤ 900) :
    Runs tb 53 [SV bx d, .int .i64 a, .pointer (some ⟨s, 0, none⟩), cmpV] H (fun r H' => r = .int .i64 (Sort.medianAdjacent ltS d a n).1 ∧ H'.get s = some [.int .i64 (Sort.medianAdjacent ltS d a n).2] ∧ Fr s H H') := by
  have hbd := h.bd
  have e1 : (a : Int) - 1 = ((a - 1 : Nat) : Int) := by omega
  have e2 : (a : Int) + 1 = ((a + 1 : Nat) : Int) := by omega
  refine Runs_fn (fn := Try.f53) [.tmp 8] [0, 1, 2, 3, 8] [] 3000 (by kernel_rfl) rfl (by kernel_rfl) (by kernel_rfl) rfl ?_; simp only [pad, argAt]
  simp (disch := omega) only [go_sem, Nat.reduceEqDiff, Nat.reduceAdd, ↓reduceIte, get_pushB, get_putB, pickB_t, pickB_f, eqB_t, eqB_f, ltB_t, leB_t, AH.size_push, AH.size_put, AH.ro_push, AH.ro_put, e1, e2]
  refine callW_of (median_ok H bx s d (a - 1) a (a + 1) n h hs hne hro (by omega) (by omega) (by omega) hn) ?_
  rintro r G ⟨rfl, hs1, hF1⟩
  simp (disch := omega) only [go_sem, Nat.reduceEqDiff, Nat.reduceAdd, ↓reduceIte, get_pushB, get_putB, pickB_t, pickB_f, eqB_t, eqB_f, ltB_t, leB_t, AH.size_push, AH.size_put, AH.ro_push, AH.ro_put]
  exact ⟨rfl, hs1, hF1⟩
def hintN : Sort.Hint → Int
  | .unknown => 0
  | .increasing => 1
  | .decreasing => 2
theorem adj_bd (d : Array Sp) (a n : Nat) {N : Nat} (ha : 1 ≤ a ∧ a + 1 < N) : (Sort.medianAdjacent ltS d a n).1 < N ∧ (Sort.medianAdjacent ltS d a n).2 ≤ n + 3 := median_bd d (a - 1) a (a + 1) n (by omega) (by omega) (by omega)
theorem quo4 (l : Nat) (h : l ≤ 1000000000) : IntKind.i64.wrap ((l : Int).tdiv 4) = ((l / 4 : Nat) : Int) := by
  rw [IntWalk.i64_quo _ _ ⟨by omega, by omega, by omega⟩]; omega
theorem choose_ok (H : AH) (bx : Nat) (d : Array Sp) (a b : Nat) (h : SpAt H bx d) (hr0 : H.ro ≤ H.size) (hab : a + 12 < b) (hb : b ≤ d.size) :
    Runs tb 43 [SV bx d, .int .i64 a, .int .i64 b, cmpV] H (fun r H' => r = .tuple #[.int .i64 (Sort.choosePivot ltS d a b).1, .int .i64 (hintN (Sort.choosePivot ltS d a b).2)] ∧ SpAt H' bx d ∧ Ext H H') := by
  have hbd := h.bd
  have hbx := AH.lt_of_get h.get
  have el : (b : Int) - a = ((b - a : Nat) : Int) := by omega
  obtain ⟨l, hl⟩ : ∃ l, l = b - a := ⟨_, rfl⟩
  rw [← hl] at el
  have q4 := quo4 l (by omega)
  refine Runs_fn (fn := Try.f43) [.tmp 8, .tmp 9] [0, 1, 2, 3, 8, 9, 10, 11, 12, 13, 14, 55] [] 3000 (by kernel_rfl) rfl (by kernel_rfl) (by kernel_rfl) rfl ?_; simp only [pad, argAt]
  simp (disch := omega) only [go_sem, Nat.reduceEqDiff, Nat.reduceAdd, ↓reduceIte, get_pushB, get_putB, pickB_t, pickB_f, eqB_t, eqB_f, ltB_t, leB_t, AH.size_push, AH.size_put, AH.ro_push, AH.ro_put, el, q4]
  have e1 : (a : Int) + ((l / 4 : Nat) : Int) * 1 = ((a + l / 4 * 1 : Nat) : Int) := by omega
  have e2 : (a : Int) + ((l / 4 : Nat) : Int) * 2 = ((a + l / 4 * 2 : Nat) : Int) := by omega
  have e3 : (a : Int) + ((l / 4 : Nat) : Int) * 3 = ((a + l / 4 * 3 : Nat) : Int) := by omega
  refine ⟨by decide, by decide, by decide, ?_⟩
  rw [e1, e2, e3]
  have hP := Ext.push H [.int .i64 0]
  have hs0 : (H.push [.int .i64 0]).get H.size = some [.int .i64 0] := by (try simp (disch := omega) only [get_pushB, get_putB, pickB_t, pickB_f, eqB_t, eqB_f, ltB_t, AH.size_push, AH.size_put, AH.ro_push, AH.ro_put])
  have hrP : (H.push [.int .i64 0]).ro = H.ro := rfl
  have hP2 := h.ext hP
  generalize H.push [.int .i64 0] = G at *
  have hne : H.size ≠ bx := by omega
  have hF0 : Fr H.size G G := Fr.refl _ _
  have cp : Sort.choosePivot ltS d a b = ((if l ≥ 50 then Sort.median ltS d (Sort.medianAdjacent ltS d (a + l / 4 * 1) 0).1 (Sort.medianAdjacent ltS d (a + l / 4 * 2) (Sort.medianAdjacent ltS d (a + l / 4 * 1) 0).2).1 (Sort.medianAdjacent ltS d (a + l / 4 * 3) (Sort.medianAdjacent ltS d (a + l / 4 * 2) (Sort.medianAdjacent ltS d (a + l / 4 * 1) 0).2).2).1 (Sort.medianAdjacent ltS d (a + l / 4 * 3) (Sort.medianAdjacent ltS d (a + l / 4 * 2) (Sort.medianAdjacent ltS d (a + l / 4 * 1) 0).2).2).2 else Sort.median ltS d (a + l / 4 * 1) (a + l / 4 * 2) (a + l / 4 * 3) 0) |> fun r => (r.1, if r.2 = 0 then Sort.Hint.increasing else if r.2 = 12 then Sort.Hint.decreasing else Sort.Hint.unknown)) := by
    simp only [Sort.choosePivot, ← hl]
    rw [if_pos (show l ≥ 8 by omega)]
  rw [cp]
  simp (disch := omega) only [go_sem, Nat.reduceEqDiff, Nat.reduceAdd, ↓reduceIte, get_pushB, get_putB, pickB_t, pickB_f, eqB_t, eqB_f, ltB_t, leB_t, AH.size_push, AH.size_put, AH.ro_push, AH.ro_put]
  refine Split.mk (fun h5 => ?_) (fun h5 => ?_)
  · rw [if_pos (show l ≥ 50 by omega)]
    simp (disch := omega) only [go_sem, Nat.reduceEqDiff, Nat.reduceAdd, ↓reduceIte, get_pushB, get_putB, pickB_t, pickB_f, eqB_t, eqB_f, ltB_t, leB_t, AH.size_push, AH.size_put, AH.ro_push, AH.ro_put]
    refine callW_of (medianAdj_ok G bx H.size d _ 0 hP2 hs0 hne (by omega) (by omega) (by omega)) ?_
    rintro r G1 ⟨rfl, hs1, hF1⟩
    obtain ⟨m1, m2⟩ := adj_bd d (a + l / 4 * 1) 0 (N := d.size) (by omega)
    simp (disch := omega) only [go_sem, Nat.reduceEqDiff, Nat.reduceAdd, ↓reduceIte, get_pushB, get_putB, pickB_t, pickB_f, eqB_t, eqB_f, ltB_t, leB_t, AH.size_push, AH.size_put, AH.ro_push, AH.ro_put]
    refine callW_of (medianAdj_ok G1 bx H.size d _ _ (hP2.fr hF1 hne) hs1 hne (by have := hF1.ro; omega) (by omega) (by omega)) ?_
    rintro r G2 ⟨rfl, hs2, hF2⟩
    obtain ⟨m3, m4⟩ := adj_bd d (a + l / 4 * 2) (Sort.medianAdjacent ltS d (a + l / 4 * 1) 0).2 (N := d.size) (by omega)
    have hF2 := hF1.trans hF2
    simp (disch := omega) only [go_sem, Nat.reduceEqDiff, Nat.reduceAdd, ↓reduceIte, get_pushB, get_putB, pickB_t, pickB_f, eqB_t, eqB_f, ltB_t, leB_t, AH.size_push, AH.size_put, AH.ro_push, AH.ro_put]
    refine callW_of (medianAdj_ok G2 bx H.size d _ _ (hP2.fr hF2 hne) hs2 hne (by have := hF2.ro; omega) (by omega) (by omega)) ?_
    rintro r G3 ⟨rfl, hs3, hF3⟩
    obtain ⟨m5, m6⟩ := adj_bd d (a + l / 4 * 3) (Sort.medianAdjacent ltS d (a + l / 4 * 2) (Sort.medianAdjacent ltS d (a + l / 4 * 1) 0).2).2 (N := d.size) (by omega)
    have hF3 := hF2.trans hF3
    simp (disch := omega) only [go_sem, Nat.reduceEqDiff, Nat.reduceAdd, ↓reduceIte, get_pushB, get_putB, pickB_t, pickB_f, eqB_t, eqB_f, ltB_t, leB_t, AH.size_push, AH.size_put, AH.ro_push, AH.ro_put]
    refine callW_of (median_ok G3 bx H.size d _ _ _ _ (hP2.fr hF3 hne) hs3 hne (by have := hF3.ro; omega) m1 m3 m5 (by omega)) ?_
    rintro r G4 ⟨rfl, hs4, hF4⟩
    have hF4 := hF3.trans hF4
    generalize Sort.median ltS d (Sort.medianAdjacent ltS d (a + l / 4 * 1) 0).1 (Sort.medianAdjacent ltS d (a + l / 4 * 2) (Sort.medianAdjacent ltS d (a + l / 4 * 1) 0).2).1 (Sort.medianAdjacent ltS d (a + l / 4 * 3) (Sort.medianAdjacent ltS d (a + l / 4 * 2) (Sort.medianAdjacent ltS d (a + l / 4 * 1) 0).2).2).1 (Sort.medianAdjacent ltS d (a + l / 4 * 3) (Sort.medianAdjacent ltS d (a + l / 4 * 2) (Sort.medianAdjacent ltS d (a + l / 4 * 1) 0).2).2).2 = rr at *
    simp (disch := omega) only [go_sem, Nat.reduceEqDiff, Nat.reduceAdd, ↓reduceIte, get_pushB, get_putB, pickB_t, pickB_f, eqB_t, eqB_f, ltB_t, leB_t, AH.size_push, AH.size_put, AH.ro_push, AH.ro_put, hs4]
    refine Split.mk (fun z0 => ?_) (fun z0 => ?_)
    · have z1 : rr.2 = 0 := by omega
      rw [if_pos z1]
      simp (disch := omega) only [go_sem, Nat.reduceEqDiff, Nat.reduceAdd, ↓reduceIte, get_pushB, get_putB, pickB_t, pickB_f, eqB_t, eqB_f, ltB_t, leB_t, AH.size_push, AH.size_put, AH.ro_push, AH.ro_put]
      exact ⟨rfl, hP2.fr hF4 hne, hF4.ext hP (Nat.le_refl _)⟩
    · have z1 : rr.2 ≠ 0 := by omega
      rw [if_neg z1]
      simp (disch := omega) only [go_sem, Nat.reduceEqDiff, Nat.reduceAdd, ↓reduceIte, get_pushB, get_putB, pickB_t, pickB_f, eqB_t, eqB_f, ltB_t, leB_t, AH.size_push, AH.size_put, AH.ro_push, AH.ro_put]
      refine Split.mk (fun y0 => ?_) (fun y0 => ?_)
      · have y1 : rr.2 = 12 := by omega
        rw [if_pos y1]
        simp (disch := omega) only [go_sem, Nat.reduceEqDiff, Nat.reduceAdd, ↓reduceIte, get_pushB, get_putB, pickB_t, pickB_f, eqB_t, eqB_f, ltB_t, leB_t, AH.size_push, AH.size_put, AH.ro_push, AH.ro_put]
        exact ⟨rfl, hP2.fr hF4 hne, hF4.ext hP (Nat.le_refl _)⟩
      · have y1 : rr.2 ≠ 12 := by omega
        rw [if_neg y1]
        simp (disch := omega) only [go_sem, Nat.reduceEqDiff, Nat.reduceAdd, ↓reduceIte, get_pushB, get_putB, pickB_t, pickB_f, eqB_t, eqB_f, ltB_t, leB_t, AH.size_push, AH.size_put, AH.ro_push, AH.ro_put]
        exact ⟨rfl, hP2.fr hF4 hne, hF4.ext hP (Nat.le_refl _)⟩
  · rw [if_neg (show ¬ l ≥ 50 by omega)]
    simp (disch := omega) only [go_sem, Nat.reduceEqDiff, Nat.reduceAdd, ↓reduceIte, get_pushB, get_putB, pickB_t, pickB_f, eqB_t, eqB_f, ltB_t, leB_t, AH.size_push, AH.size_put, AH.ro_push, AH.ro_put]
    refine callW_of (median_ok G bx H.size d _ _ _ 0 hP2 hs0 hne (by omega) (by omega) (by omega) (by omega) (by omega)) ?_
    rintro r G2 ⟨rfl, hs2, hF2⟩
    generalize Sort.median ltS d (a + l / 4 * 1) (a + l / 4 * 2) (a + l / 4 * 3) 0 = rr at *
    simp (disch := omega) only [go_sem, Nat.reduceEqDiff, Nat.reduceAdd, ↓reduceIte, get_pushB, get_putB, pickB_t, pickB_f, eqB_t, eqB_f, ltB_t, leB_t, AH.size_push, AH.size_put, AH.ro_push, AH.ro_put, hs2]
    refine Split.mk (fun z0 => ?_) (fun z0 => ?_)
    · have z1 : rr.2 = 0 := by omega
      rw [if_pos z1]
      simp (disch := omega) only [go_sem, Nat.reduceEqDiff, Nat.reduceAdd, ↓reduceIte, get_pushB, get_putB, pickB_t, pickB_f, eqB_t, eqB_f, ltB_t, leB_t, AH.size_push, AH.size_put, AH.ro_push, AH.ro_put]
      exact ⟨rfl, hP2.fr hF2 hne, hF2.ext hP (Nat.le_refl _)⟩
    · have z1 : rr.2 ≠ 0 := by omega
      rw [if_neg z1]
      simp (disch := omega) only [go_sem, Nat.reduceEqDiff, Nat.reduceAdd, ↓reduceIte, get_pushB, get_putB, pickB_t, pickB_f, eqB_t, eqB_f, ltB_t, leB_t, AH.size_push, AH.size_put, AH.ro_push, AH.ro_put]
      refine Split.mk (fun y0 => ?_) (fun y0 => ?_)
      · have y1 : rr.2 = 12 := by omega
        rw [if_pos y1]
        simp (disch := omega) only [go_sem, Nat.reduceEqDiff, Nat.reduceAdd, ↓reduceIte, get_pushB, get_putB, pickB_t, pickB_f, eqB_t, eqB_f, ltB_t, leB_t, AH.size_push, AH.size_put, AH.ro_push, AH.ro_put]
        exact ⟨rfl, hP2.fr hF2 hne, hF2.ext hP (Nat.le_refl _)⟩
      · have y1 : rr.2 ≠ 12 := by omega
        rw [if_neg y1]
        simp (disch := omega) only [go_sem, Nat.reduceEqDiff, Nat.reduceAdd, ↓reduceIte, get_pushB, get_putB, pickB_t, pickB_f, eqB_t, eqB_f, ltB_t, leB_t, AH.size_push, AH.size_put, AH.ro_push, AH.ro_put]
        exact ⟨rfl, hP2.fr hF2 hne, hF2.ext hP (Nat.le_refl _)⟩
end Go.Proofs.A

/- Sorting: turning around, few steps, heaps. -/
set_option linter.unusedVariables false
set_option maxRecDepth 8000
set_option maxHeartbeats 4000000
set_option linter.unusedSimpArgs false
namespace Go.Proofs.A
open Go Go.Ab
/-- Two spans change places. -/
theorem sp_swap {H : AH} {b : Nat} {d : Array Sp} (h : SpAt H b d) (i j : Nat) (hi : i < d.size) (hj : j < d.size) :
    astore tb 56 (elp (some ⟨b, 0, none⟩) 2 (i : Int) 0) (spv d[j]!) H = some (H.put b (some (spc (d.setIfInBounds i d[j]!)))) ∧
    astore tb 56 (elp (some ⟨b, 0, none⟩) 2 (j : Int) 0) (spv d[i]!) (H.put b (some (spc (d.setIfInBounds i d[j]!)))) = some ((H.put b (some (spc (d.setIfInBounds i d[j]!)))).put b (some (spc (Sort.swp d i j)))) ∧
    SpAt ((H.put b (some (spc (d.setIfInBounds i d[j]!)))).put b (some (spc (Sort.swp d i j)))) b (Sort.swp d i j) ∧ Fr b H ((H.put b (some (spc (d.setIfInBounds i d[j]!)))).put b (some (spc (Sort.swp d i j)))) := by
  obtain ⟨s1, he4, hF4⟩ := sp_st h (i : Int) (by omega) d[j]!
  simp only [Int.toNat_natCast] at s1 he4 hF4
  obtain ⟨s2, he5, hF5⟩ := sp_st he4 (j : Int) (by simp; omega) d[i]!
  simp only [Int.toNat_natCast] at s2 he5 hF5
  exact ⟨s1, s2, he5, hF4.trans hF5⟩
theorem reverse_size (i j : Nat) (d : Array Sp) : (Sort.reverseLoop i j d).size = d.size := by
  induction h : j - i using Nat.strongRecOn generalizing i j d with
  | _ n ih =>
    rw [Sort.reverseLoop]
    split
    · rw [ih (j - 1 - (i + 1)) (by omega) _ _ _ rfl, swp_size]
    · rfl
theorem reverse_ok (H : AH) (bx : Nat) (d : Array Sp) (a b : Nat) (h : SpAt H bx d) (hab : a < b) (hb : b ≤ d.size) :
    Runs tb 44 [SV bx d, .int .i64 a, .int .i64 b, cmpV] H (fun r H' => r = .tuple #[] ∧ SpAt H' bx (Sort.reverseRange d a b) ∧ Fr bx H H') := by
  have hbd := h.bd
  have e1 : (b : Int) - 1 = ((b - 1 : Nat) : Int) := by omega
  unfold SV
  refine Runs_fn (fn := Try.f44) [] [0, 1, 2, 3, 8, 9] [] 3000 (by kernel_rfl) rfl (by kernel_rfl) (by kernel_rfl) rfl ?_; simp only [pad, argAt]
  simp (disch := omega) only [go_sem, Nat.reduceEqDiff, Nat.reduceAdd, ↓reduceIte, get_pushB, get_putB, pickB_t, pickB_f, eqB_t, eqB_f, ltB_t, leB_t, AH.size_push, AH.size_put, AH.ro_push, AH.ro_put, e1]
  refine Sat_loop 3000 (fun k H' V => ∃ (i j : Nat) (e : Array Sp), a ≤ i ∧ j < b ∧ k = j - i ∧ SpAt H' bx e ∧ e.size = d.size ∧ Sort.reverseLoop i j e = Sort.reverseRange d a b ∧ Fr bx H H' ∧ V = [.slice (some ⟨bx, 0, none⟩) d.size 2, .int .i64 a, .int .i64 b, cmpV, .int .i64 i, .int .i64 j]) (b - 1 - a) ⟨a, b - 1, d, by omega, by omega, rfl, h, rfl, rfl, Fr.refl _ _, rfl⟩ ?_
  rintro k H' V ⟨i, j, e, hi, hj, rfl, he, hes, hspec, hF, rfl⟩ ih
  simp (disch := omega) only [go_sem, Nat.reduceEqDiff, Nat.reduceAdd, ↓reduceIte, get_pushB, get_putB, pickB_t, pickB_f, eqB_t, eqB_f, ltB_t, leB_t, AH.size_push, AH.size_put, AH.ro_push, AH.ro_put]
  refine Split.mk (fun h1 => ?_) (fun h1 => ?_)
  · have hij : i < j := by omega
    rw [Sort.reverseLoop, if_pos hij] at hspec
    have x1 := sp_ix bx d.size (i : Int) (by omega) .i64
    have x2 := sp_ix bx d.size (j : Int) (by omega) .i64
    have l1 := sp_ld he (i : Int) (by omega)
    have l2 := sp_ld he (j : Int) (by omega)
    simp only [Int.toNat_natCast] at l1 l2
    obtain ⟨s1, s2, he2, hF2⟩ := sp_swap he i j (by omega) (by omega)
    have ej : (j : Int) - 1 = ((j - 1 : Nat) : Int) := by omega
    simp (disch := omega) only [go_sem, Nat.reduceEqDiff, Nat.reduceAdd, ↓reduceIte, get_pushB, get_putB, pickB_t, pickB_f, eqB_t, eqB_f, ltB_t, leB_t, AH.size_push, AH.size_put, AH.ro_push, AH.ro_put, x1, x2, l1, l2, s1, s2, ej]
    refine ih _ _ _ ?_ ⟨i + 1, j - 1, _, by omega, by omega, rfl, he2, by rw [swp_size]; exact hes, hspec, hF.trans hF2, by rw [Int.natCast_add]; rfl⟩
    omega
  · rw [Sort.reverseLoop, if_neg (by omega)] at hspec
    simp (disch := omega) only [go_sem, Nat.reduceEqDiff, Nat.reduceAdd, ↓reduceIte, get_pushB, get_putB, pickB_t, pickB_f, eqB_t, eqB_f, ltB_t, leB_t, AH.size_push, AH.size_put, AH.ro_push, AH.ro_put]
    rw [← hspec]
    exact ⟨he, hF⟩
theorem scanSorted_go (d : Array Sp) (b i : Nat) (h : i < b ∧ ltS d[i]! d[i - 1]! = false) : Sort.scanSorted ltS d b i = Sort.scanSorted ltS d b (i + 1) := by
  rw [Sort.scanSorted, if_pos (by simp [h.1, h.2])]
theorem scanSorted_end (d : Array Sp) (b i : Nat) (h : ¬ (i < b ∧ ltS d[i]! d[i - 1]! = false)) : Sort.scanSorted ltS d b i = i := by
  rw [Sort.scanSorted, if_neg (by simpa using h)]
theorem shiftDown_size (j : Nat) (d : Array Sp) : (Sort.shiftDown ltS j d).size = d.size := by
  induction j generalizing d with
  | zero => rfl
  | succ j ih => simp only [Sort.shiftDown]; split <;> simp [ih, swp_size]
theorem shiftUp_size (b j : Nat) (d : Array Sp) : (Sort.shiftUp ltS b j d).size = d.size := by
  induction h : b - j using Nat.strongRecOn generalizing j d with
  | _ n ih =>
    rw [Sort.shiftUp]
    split
    · split
      · rfl
      · rw [ih (b - (j + 1)) (by omega) _ _ rfl, swp_size]
    · rfl
theorem partial_ok (H : AH) (bx : Nat) (d : Array Sp) (a b : Nat) (h : SpAt H bx d) (hab : a < b) (hb : b ≤ d.size) :
    Runs tb 45 [SV bx d, .int .i64 a, .int .i64 b, cmpV] H (fun r H' => r = .bool (Sort.partialInsertionSort ltS d a b).2 ∧ SpAt H' bx (Sort.partialInsertionSort ltS d a b).1 ∧ Fr bx H H') := by
  have hbd := h.bd
  unfold SV
  refine Runs_fn (fn := Try.f45) [.tmp 8] [0, 1, 2, 3, 8, 9, 10, 11, 12] [] 3000 (by kernel_rfl) rfl (by kernel_rfl) (by kernel_rfl) rfl ?_; simp only [pad, argAt]
  simp (disch := omega) only [go_sem, Nat.reduceEqDiff, Nat.reduceAdd, ↓reduceIte, get_pushB, get_putB, pickB_t, pickB_f, eqB_t, eqB_f, ltB_t, leB_t, AH.size_push, AH.size_put, AH.ro_push, AH.ro_put]
  refine Sat_loop 3000 (fun k H' V => ∃ (j i : Nat) (x11 x12 : Value) (e : Array Sp), j ≤ 5 ∧ k = 5 - j ∧ a + 1 ≤ i ∧ i ≤ b ∧ SpAt H' bx e ∧ e.size = d.size ∧ Sort.partialIns ltS a b (5 - j) i e = Sort.partialInsertionSort ltS d a b ∧ Fr bx H H' ∧ V = [.slice (some ⟨bx, 0, none⟩) d.size 2, .int .i64 a, .int .i64 b, cmpV, .bool false, .int .i64 i, .int .i64 j, x11, x12]) 5 ⟨0, a + 1, _, _, d, by omega, rfl, by omega, by omega, h, rfl, rfl, Fr.refl _ _, by rw [Int.natCast_add]; rfl⟩ ?_
  rintro k H' V ⟨j, i, x11, x12, e, hj, rfl, hi1, hi2, he, hes, hspec, hF, rfl⟩ ih
  simp (disch := omega) only [go_sem, Nat.reduceEqDiff, Nat.reduceAdd, ↓reduceIte, get_pushB, get_putB, pickB_t, pickB_f, eqB_t, eqB_f, ltB_t, leB_t, AH.size_push, AH.size_put, AH.ro_push, AH.ro_put]
  refine Split.mk (fun h1 => ?_) (fun h1 => ?_)
  · obtain ⟨s, hs⟩ : ∃ s, 5 - j = s + 1 := ⟨4 - j, by omega⟩
    rw [hs, Sort.partialIns] at hspec
    simp (disch := omega) only [go_sem, Nat.reduceEqDiff, Nat.reduceAdd, ↓reduceIte, get_pushB, get_putB, pickB_t, pickB_f, eqB_t, eqB_f, ltB_t, leB_t, AH.size_push, AH.size_put, AH.ro_push, AH.ro_put]
    refine Sat_loop 3000 (fun k H2 V => ∃ (i2 : Nat), a + 1 ≤ i2 ∧ i2 ≤ b ∧ k = b - i2 ∧ SpAt H2 bx e ∧ Sort.scanSorted ltS e b i = Sort.scanSorted ltS e b i2 ∧ Fr bx H H2 ∧ V = [.slice (some ⟨bx, 0, none⟩) d.size 2, .int .i64 a, .int .i64 b, cmpV, .bool false, .int .i64 i2, .int .i64 j, x11, x12]) (b - i) ⟨i, hi1, hi2, rfl, he, rfl, hF, rfl⟩ ?_
    clear he hF
    rintro k H2 V ⟨i2, hi3, hi4, rfl, he, hsc, hF, rfl⟩ ih2
    simp (disch := omega) only [go_sem, Nat.reduceEqDiff, Nat.reduceAdd, ↓reduceIte, get_pushB, get_putB, pickB_t, pickB_f, eqB_t, eqB_f, ltB_t, leB_t, AH.size_push, AH.size_put, AH.ro_push, AH.ro_put]
    have ei : (i2 : Int) - 1 = ((i2 - 1 : Nat) : Int) := by omega
    refine SplitG.mk (fun h2 => ?_) (fun h2 => ?_)
    · have hlt : i2 < b := by omega
      have x1 := sp_ix bx d.size (i2 : Int) (by omega) .i64
      have x2 := sp_ix bx d.size ((i2 - 1 : Nat) : Int) (by omega) .i64
      have l1 := sp_ld he (i2 : Int) (by omega)
      have l2 := sp_ld he ((i2 - 1 : Nat) : Int) (by omega)
      simp only [Int.toNat_natCast] at l1 l2
      simp (disch := omega) only [go_sem, Nat.reduceEqDiff, Nat.reduceAdd, ↓reduceIte, get_pushB, get_putB, pickB_t, pickB_f, eqB_t, eqB_f, ltB_t, leB_t, AH.size_push, AH.size_put, AH.ro_push, AH.ro_put, x1, x2, l1, l2, ei]
      refine callW_of (cmp_ok H2 _ _) ?_
      rintro r H3 ⟨c, rfl, hc, hc1, hc2, hE3⟩
      have he3 := he.ext hE3
      have hF3 := hF.trans (Fr.of_ext bx hE3)
      simp (disch := omega) only [go_sem, Nat.reduceEqDiff, Nat.reduceAdd, ↓reduceIte, get_pushB, get_putB, pickB_t, pickB_f, eqB_t, eqB_f, ltB_t, leB_t, AH.size_push, AH.size_put, AH.ro_push, AH.ro_put]
      refine Split.mk (fun h3 => ?_) (fun h3 => ?_)
      · have hlt2 : ltS e[i2]! e[i2 - 1]! = false := by simp only [ltS, decide_eq_false_iff_not]; exact fun h => h3 (hc.2 h)
        rw [scanSorted_go _ _ _ ⟨hlt, hlt2⟩] at hsc
        simp (disch := omega) only [go_sem, Nat.reduceEqDiff, Nat.reduceAdd, ↓reduceIte, get_pushB, get_putB, pickB_t, pickB_f, eqB_t, eqB_f, ltB_t, leB_t, AH.size_push, AH.size_put, AH.ro_push, AH.ro_put]
        refine ih2 _ _ _ ?_ ⟨i2 + 1, by omega, by omega, rfl, he3, hsc, hF3, by rw [Int.natCast_add]; rfl⟩
        omega
      · have hlt2 : ltS e[i2]! e[i2 - 1]! = true := by simp only [ltS, decide_eq_true_eq]; exact hc.1 (by omega)
        rw [scanSorted_end e b i2 (by rw [hlt2]; simp)] at hsc
        simp only [hsc] at hspec
        rw [if_neg (show ¬ i2 = b by omega)] at hspec
        simp (disch := omega) only [go_sem, Nat.reduceEqDiff, Nat.reduceAdd, ↓reduceIte, get_pushB, get_putB, pickB_t, pickB_f, eqB_t, eqB_f, ltB_t, leB_t, AH.size_push, AH.size_put, AH.ro_push, AH.ro_put]
        refine Split.mk (fun h5 => ?_) (fun h5 => ?_)
        · rw [if_pos (show b - a < 50 by omega)] at hspec
          simp (disch := omega) only [go_sem, Nat.reduceEqDiff, Nat.reduceAdd, ↓reduceIte, get_pushB, get_putB, pickB_t, pickB_f, eqB_t, eqB_f, ltB_t, leB_t, AH.size_push, AH.size_put, AH.ro_push, AH.ro_put]
          rw [← hspec]
          exact ⟨rfl, he3, hF3⟩
        · rw [if_neg (show ¬ b - a < 50 by omega)] at hspec
          have l1 := sp_ld he3 (i2 : Int) (by omega)
          have l2 := sp_ld he3 ((i2 - 1 : Nat) : Int) (by omega)
          simp only [Int.toNat_natCast] at l1 l2
          obtain ⟨s1, s2, he4, hF4⟩ := sp_swap he3 i2 (i2 - 1) (by omega) (by omega)
          have hF4 := hF3.trans hF4
          have hes4 : (Sort.swp e i2 (i2 - 1)).size = d.size := by rw [swp_size]; exact hes
          simp (disch := omega) only [go_sem, Nat.reduceEqDiff, Nat.reduceAdd, ↓reduceIte, get_pushB, get_putB, pickB_t, pickB_f, eqB_t, eqB_f, ltB_t, leB_t, AH.size_push, AH.size_put, AH.ro_push, AH.ro_put, x1, x2, l1, l2, ei, s1, s2]
          refine Split.mk (fun v1 => ?_) (fun v1 => ?_)
          · rw [if_pos (show i2 - a ≥ 2 by omega)] at hspec
            simp (disch := omega) only [go_sem, Nat.reduceEqDiff, Nat.reduceAdd, ↓reduceIte, get_pushB, get_putB, pickB_t, pickB_f, eqB_t, eqB_f, ltB_t, leB_t, AH.size_push, AH.size_put, AH.ro_push, AH.ro_put, ei]
            refine Sat_loop 3000 (fun k K1 V => ∃ (q : Nat) (g : Array Sp), q ≤ i2 - 1 ∧ k = q ∧ SpAt K1 bx g ∧ g.size = d.size ∧ Sort.shiftDown ltS q g = Sort.shiftDown ltS (i2 - 1) (Sort.swp e i2 (i2 - 1)) ∧ Fr bx H K1 ∧ V = [.slice (some ⟨bx, 0, none⟩) d.size 2, .int .i64 a, .int .i64 b, cmpV, .bool false, .int .i64 i2, .int .i64 j, .int .i64 q, x12]) (i2 - 1) ⟨i2 - 1, _, by omega, rfl, he4, hes4, rfl, hF4, rfl⟩ ?_
            rintro kk K1 V ⟨q, g, hq1, hkk, hg, hgs, hdn, hFd, rfl⟩ ih3
            simp (disch := omega) only [go_sem, Nat.reduceEqDiff, Nat.reduceAdd, ↓reduceIte, get_pushB, get_putB, pickB_t, pickB_f, eqB_t, eqB_f, ltB_t, leB_t, AH.size_push, AH.size_put, AH.ro_push, AH.ro_put]
            refine Split.mk (fun v2 => ?_) (fun v2 => ?_)
            · obtain ⟨q, rfl⟩ : ∃ m, q = m + 1 := ⟨q - 1, by omega⟩
              have eq1 : ((q + 1 : Nat) : Int) - 1 = (q : Int) := by omega
              have x1 := sp_ix bx d.size ((q + 1 : Nat) : Int) (by omega) .i64
              have x2 := sp_ix bx d.size (q : Int) (by omega) .i64
              have l1 := sp_ld hg ((q + 1 : Nat) : Int) (by omega)
              have l2 := sp_ld hg (q : Int) (by omega)
              simp only [Int.toNat_natCast] at l1 l2
              rw [Sort.shiftDown] at hdn
              simp (disch := omega) only [go_sem, Nat.reduceEqDiff, Nat.reduceAdd, ↓reduceIte, get_pushB, get_putB, pickB_t, pickB_f, eqB_t, eqB_f, ltB_t, leB_t, AH.size_push, AH.size_put, AH.ro_push, AH.ro_put, x1, x2, l1, l2, eq1]
              refine callW_of (cmp_ok K1 _ _) ?_
              rintro r K2 ⟨c, rfl, hc, hc1, hc2, hE3⟩
              have hg2 := hg.ext hE3
              have hFd2 := hFd.trans (Fr.of_ext bx hE3)
              simp (disch := omega) only [go_sem, Nat.reduceEqDiff, Nat.reduceAdd, ↓reduceIte, get_pushB, get_putB, pickB_t, pickB_f, eqB_t, eqB_f, ltB_t, leB_t, AH.size_push, AH.size_put, AH.ro_push, AH.ro_put]
              refine Split.mk (fun v3 => ?_) (fun v3 => ?_)
              · have hlt : ltS g[q + 1]! g[q]! = false := by simp only [ltS, decide_eq_false_iff_not]; exact fun h => v3 (hc.2 h)
                rw [hlt] at hdn
                simp only [Bool.not_false, if_true] at hdn
                rw [← hdn] at hspec
                simp (disch := omega) only [go_sem, Nat.reduceEqDiff, Nat.reduceAdd, ↓reduceIte, get_pushB, get_putB, pickB_t, pickB_f, eqB_t, eqB_f, ltB_t, leB_t, AH.size_push, AH.size_put, AH.ro_push, AH.ro_put]
                refine Split.mk (fun u1 => ?_) (fun u1 => ?_)
                · rw [if_pos (show b - i2 ≥ 2 by omega)] at hspec
                  simp (disch := omega) only [go_sem, Nat.reduceEqDiff, Nat.reduceAdd, ↓reduceIte, get_pushB, get_putB, pickB_t, pickB_f, eqB_t, eqB_f, ltB_t, leB_t, AH.size_push, AH.size_put, AH.ro_push, AH.ro_put]
                  refine Sat_loop 3000 (fun k K1 V => ∃ (w : Nat) (f : Array Sp), i2 + 1 ≤ w ∧ w ≤ b ∧ k = b - w ∧ SpAt K1 bx f ∧ f.size = d.size ∧ Sort.shiftUp ltS b w f = Sort.shiftUp ltS b (i2 + 1) g ∧ Fr bx H K1 ∧ V = [.slice (some ⟨bx, 0, none⟩) d.size 2, .int .i64 a, .int .i64 b, cmpV, .bool false, .int .i64 i2, .int .i64 j, .int .i64 (q + 1 : Nat), .int .i64 w]) (b - (i2 + 1)) ⟨i2 + 1, g, by omega, by omega, rfl, hg2, hgs, rfl, hFd2, by simp only [Int.natCast_add]; rfl⟩ ?_
                  rintro k K1 V ⟨w, f, hq1, hq2, rfl, hf, hfs, hup, hFu, rfl⟩ ih4
                  simp (disch := omega) only [go_sem, Nat.reduceEqDiff, Nat.reduceAdd, ↓reduceIte, get_pushB, get_putB, pickB_t, pickB_f, eqB_t, eqB_f, ltB_t, leB_t, AH.size_push, AH.size_put, AH.ro_push, AH.ro_put]
                  have eq2 : (w : Int) - 1 = ((w - 1 : Nat) : Int) := by omega
                  refine Split.mk (fun u2 => ?_) (fun u2 => ?_)
                  · have x1 := sp_ix bx d.size (w : Int) (by omega) .i64
                    have x2 := sp_ix bx d.size ((w - 1 : Nat) : Int) (by omega) .i64
                    have l1 := sp_ld hf (w : Int) (by omega)
                    have l2 := sp_ld hf ((w - 1 : Nat) : Int) (by omega)
                    simp only [Int.toNat_natCast] at l1 l2
                    rw [Sort.shiftUp, if_pos (show w < b by omega)] at hup
                    simp (disch := omega) only [go_sem, Nat.reduceEqDiff, Nat.reduceAdd, ↓reduceIte, get_pushB, get_putB, pickB_t, pickB_f, eqB_t, eqB_f, ltB_t, leB_t, AH.size_push, AH.size_put, AH.ro_push, AH.ro_put, x1, x2, l1, l2, eq2]
                    refine callW_of (cmp_ok K1 _ _) ?_
                    rintro r K2 ⟨c, rfl, hc, hc1, hc2, hE3⟩
                    have hf2 := hf.ext hE3
                    have hFu2 := hFu.trans (Fr.of_ext bx hE3)
                    simp (disch := omega) only [go_sem, Nat.reduceEqDiff, Nat.reduceAdd, ↓reduceIte, get_pushB, get_putB, pickB_t, pickB_f, eqB_t, eqB_f, ltB_t, leB_t, AH.size_push, AH.size_put, AH.ro_push, AH.ro_put]
                    refine Split.mk (fun u3 => ?_) (fun u3 => ?_)
                    · have hlt : ltS f[w]! f[w - 1]! = false := by simp only [ltS, decide_eq_false_iff_not]; exact fun h => u3 (hc.2 h)
                      rw [hlt] at hup
                      simp only [Bool.not_false, if_true] at hup
                      have hsp5 := hspec
                      rw [← hup] at hsp5
                      simp (disch := omega) only [go_sem, Nat.reduceEqDiff, Nat.reduceAdd, ↓reduceIte, get_pushB, get_putB, pickB_t, pickB_f, eqB_t, eqB_f, ltB_t, leB_t, AH.size_push, AH.size_put, AH.ro_push, AH.ro_put]
                      refine ih _ _ _ ?_ ⟨j + 1, i2, _, _, f, by omega, rfl, by omega, by omega, hf2, hfs, (by rw [show 5 - (j + 1) = s by omega]; exact hsp5), hFu2, by rw [Int.natCast_add]; rfl⟩
                      omega
                    · have hlt : ltS f[w]! f[w - 1]! = true := by simp only [ltS, decide_eq_true_eq]; exact hc.1 (by omega)
                      rw [hlt] at hup
                      simp only [Bool.not_true, Bool.false_eq_true, if_false] at hup
                      have l1 := sp_ld hf2 (w : Int) (by omega)
                      have l2 := sp_ld hf2 ((w - 1 : Nat) : Int) (by omega)
                      simp only [Int.toNat_natCast] at l1 l2
                      obtain ⟨s1, s2, hf3, hF3⟩ := sp_swap hf2 w (w - 1) (by omega) (by omega)
                      simp (disch := omega) only [go_sem, Nat.reduceEqDiff, Nat.reduceAdd, ↓reduceIte, get_pushB, get_putB, pickB_t, pickB_f, eqB_t, eqB_f, ltB_t, leB_t, AH.size_push, AH.size_put, AH.ro_push, AH.ro_put, x1, x2, l1, l2, eq2, s1, s2]
                      refine ih4 _ _ _ ?_ ⟨w + 1, _, by omega, by omega, rfl, hf3, by rw [swp_size]; exact hfs, hup, hFu2.trans hF3, by simp only [Int.natCast_add]; rfl⟩
                      omega
                  · rw [Sort.shiftUp, if_neg (show ¬ w < b by omega)] at hup
                    have hsp5 := hspec
                    rw [← hup] at hsp5
                    simp (disch := omega) only [go_sem, Nat.reduceEqDiff, Nat.reduceAdd, ↓reduceIte, get_pushB, get_putB, pickB_t, pickB_f, eqB_t, eqB_f, ltB_t, leB_t, AH.size_push, AH.size_put, AH.ro_push, AH.ro_put]
                    refine ih _ _ _ ?_ ⟨j + 1, i2, _, _, f, by omega, rfl, by omega, by omega, hf, hfs, (by rw [show 5 - (j + 1) = s by omega]; exact hsp5), hFu, by rw [Int.natCast_add]; rfl⟩
                    omega
                · rw [if_neg (show ¬ b - i2 ≥ 2 by omega)] at hspec
                  have hsp5 := hspec
                  skip
                  simp (disch := omega) only [go_sem, Nat.reduceEqDiff, Nat.reduceAdd, ↓reduceIte, get_pushB, get_putB, pickB_t, pickB_f, eqB_t, eqB_f, ltB_t, leB_t, AH.size_push, AH.size_put, AH.ro_push, AH.ro_put]
                  refine ih _ _ _ ?_ ⟨j + 1, i2, _, _, g, by omega, rfl, by omega, by omega, hg2, hgs, (by rw [show 5 - (j + 1) = s by omega]; exact hsp5), hFd2, by rw [Int.natCast_add]; rfl⟩
                  omega
              · have hlt : ltS g[q + 1]! g[q]! = true := by simp only [ltS, decide_eq_true_eq]; exact hc.1 (by omega)
                rw [hlt] at hdn
                simp only [Bool.not_true, Bool.false_eq_true, if_false] at hdn
                have l1 := sp_ld hg2 ((q + 1 : Nat) : Int) (by omega)
                have l2 := sp_ld hg2 (q : Int) (by omega)
                simp only [Int.toNat_natCast] at l1 l2
                obtain ⟨s1, s2, hg3, hF3⟩ := sp_swap hg2 (q + 1) q (by omega) (by omega)
                simp (disch := omega) only [go_sem, Nat.reduceEqDiff, Nat.reduceAdd, ↓reduceIte, get_pushB, get_putB, pickB_t, pickB_f, eqB_t, eqB_f, ltB_t, leB_t, AH.size_push, AH.size_put, AH.ro_push, AH.ro_put, x1, x2, l1, l2, eq1, s1, s2]
                refine ih3 _ _ _ ?_ ⟨q, _, by omega, rfl, hg3, by rw [swp_size]; exact hgs, hdn, hFd2.trans hF3, rfl⟩
                omega
            · have hq0 : q = 0 := by omega
              subst hq0
              rw [Sort.shiftDown] at hdn
              rw [← hdn] at hspec
              simp (disch := omega) only [go_sem, Nat.reduceEqDiff, Nat.reduceAdd, ↓reduceIte, get_pushB, get_putB, pickB_t, pickB_f, eqB_t, eqB_f, ltB_t, leB_t, AH.size_push, AH.size_put, AH.ro_push, AH.ro_put]
              refine Split.mk (fun u1 => ?_) (fun u1 => ?_)
              · rw [if_pos (show b - i2 ≥ 2 by omega)] at hspec
                simp (disch := omega) only [go_sem, Nat.reduceEqDiff, Nat.reduceAdd, ↓reduceIte, get_pushB, get_putB, pickB_t, pickB_f, eqB_t, eqB_f, ltB_t, leB_t, AH.size_push, AH.size_put, AH.ro_push, AH.ro_put]
                refine Sat_loop 3000 (fun k K1 V => ∃ (w : Nat) (f : Array Sp), i2 + 1 ≤ w ∧ w ≤ b ∧ k = b - w ∧ SpAt K1 bx f ∧ f.size = d.size ∧ Sort.shiftUp ltS b w f = Sort.shiftUp ltS b (i2 + 1) g ∧ Fr bx H K1 ∧ V = [.slice (some ⟨bx, 0, none⟩) d.size 2, .int .i64 a, .int .i64 b, cmpV, .bool false, .int .i64 i2, .int .i64 j, .int .i64 (0 : Nat), .int .i64 w]) (b - (i2 + 1)) ⟨i2 + 1, g, by omega, by omega, rfl, hg, hgs, rfl, hFd, by simp only [Int.natCast_add]; rfl⟩ ?_
                rintro k K1 V ⟨w, f, hq1, hq2, rfl, hf, hfs, hup, hFu, rfl⟩ ih4
                simp (disch := omega) only [go_sem, Nat.reduceEqDiff, Nat.reduceAdd, ↓reduceIte, get_pushB, get_putB, pickB_t, pickB_f, eqB_t, eqB_f, ltB_t, leB_t, AH.size_push, AH.size_put, AH.ro_push, AH.ro_put]
                have eq2 : (w : Int) - 1 = ((w - 1 : Nat) : Int) := by omega
                refine Split.mk (fun u2 => ?_) (fun u2 => ?_)
                · have x1 := sp_ix bx d.size (w : Int) (by omega) .i64
                  have x2 := sp_ix bx d.size ((w - 1 : Nat) : Int) (by omega) .i64
                  have l1 := sp_ld hf (w : Int) (by omega)
                  have l2 := sp_ld hf ((w - 1 : Nat) : Int) (by omega)
                  simp only [Int.toNat_natCast] at l1 l2
                  rw [Sort.shiftUp, if_pos (show w < b by omega)] at hup
                  simp (disch := omega) only [go_sem, Nat.reduceEqDiff, Nat.reduceAdd, ↓reduceIte, get_pushB, get_putB, pickB_t, pickB_f, eqB_t, eqB_f, ltB_t, leB_t, AH.size_push, AH.size_put, AH.ro_push, AH.ro_put, x1, x2, l1, l2, eq2]
                  refine callW_of (cmp_ok K1 _ _) ?_
                  rintro r K2 ⟨c, rfl, hc, hc1, hc2, hE3⟩
                  have hf2 := hf.ext hE3
                  have hFu2 := hFu.trans (Fr.of_ext bx hE3)
                  simp (disch := omega) only [go_sem, Nat.reduceEqDiff, Nat.reduceAdd, ↓reduceIte, get_pushB, get_putB, pickB_t, pickB_f, eqB_t, eqB_f, ltB_t, leB_t, AH.size_push, AH.size_put, AH.ro_push, AH.ro_put]
                  refine Split.mk (fun u3 => ?_) (fun u3 => ?_)
                  · have hlt : ltS f[w]! f[w - 1]! = false := by simp only [ltS, decide_eq_false_iff_not]; exact fun h => u3 (hc.2 h)
                    rw [hlt] at hup
                    simp only [Bool.not_false, if_true] at hup
                    have hsp5 := hspec
                    rw [← hup] at hsp5
                    simp (disch := omega) only [go_sem, Nat.reduceEqDiff, Nat.reduceAdd, ↓reduceIte, get_pushB, get_putB, pickB_t, pickB_f, eqB_t, eqB_f, ltB_t, leB_t, AH.size_push, AH.size_put, AH.ro_push, AH.ro_put]
                    refine ih _ _ _ ?_ ⟨j + 1, i2, _, _, f, by omega, rfl, by omega, by omega, hf2, hfs, (by rw [show 5 - (j + 1) = s by omega]; exact hsp5), hFu2, by rw [Int.natCast_add]; rfl⟩
                    omega
                  · have hlt : ltS f[w]! f[w - 1]! = true := by simp only [ltS, decide_eq_true_eq]; exact hc.1 (by omega)
                    rw [hlt] at hup
                    simp only [Bool.not_true, Bool.false_eq_true, if_false] at hup
                    have l1 := sp_ld hf2 (w : Int) (by omega)
                    have l2 := sp_ld hf2 ((w - 1 : Nat) : Int) (by omega)
                    simp only [Int.toNat_natCast] at l1 l2
                    obtain ⟨s1, s2, hf3, hF3⟩ := sp_swap hf2 w (w - 1) (by omega) (by omega)
                    simp (disch := omega) only [go_sem, Nat.reduceEqDiff, Nat.reduceAdd, ↓reduceIte, get_pushB, get_putB, pickB_t, pickB_f, eqB_t, eqB_f, ltB_t, leB_t, AH.size_push, AH.size_put, AH.ro_push, AH.ro_put, x1, x2, l1, l2, eq2, s1, s2]
                    refine ih4 _ _ _ ?_ ⟨w + 1, _, by omega, by omega, rfl, hf3, by rw [swp_size]; exact hfs, hup, hFu2.trans hF3, by simp only [Int.natCast_add]; rfl⟩
                    omega
                · rw [Sort.shiftUp, if_neg (show ¬ w < b by omega)] at hup
                  have hsp5 := hspec
                  rw [← hup] at hsp5
                  simp (disch := omega) only [go_sem, Nat.reduceEqDiff, Nat.reduceAdd, ↓reduceIte, get_pushB, get_putB, pickB_t, pickB_f, eqB_t, eqB_f, ltB_t, leB_t, AH.size_push, AH.size_put, AH.ro_push, AH.ro_put]
                  refine ih _ _ _ ?_ ⟨j + 1, i2, _, _, f, by omega, rfl, by omega, by omega, hf, hfs, (by rw [show 5 - (j + 1) = s by omega]; exact hsp5), hFu, by rw [Int.natCast_add]; rfl⟩
                  omega
              · rw [if_neg (show ¬ b - i2 ≥ 2 by omega)] at hspec
                have hsp5 := hspec
                skip
                simp (disch := omega) only [go_sem, Nat.reduceEqDiff, Nat.reduceAdd, ↓reduceIte, get_pushB, get_putB, pickB_t, pickB_f, eqB_t, eqB_f, ltB_t, leB_t, AH.size_push, AH.size_put, AH.ro_push, AH.ro_put]
                refine ih _ _ _ ?_ ⟨j + 1, i2, _, _, g, by omega, rfl, by omega, by omega, hg, hgs, (by rw [show 5 - (j + 1) = s by omega]; exact hsp5), hFd, by rw [Int.natCast_add]; rfl⟩
                omega
          · rw [if_neg (show ¬ i2 - a ≥ 2 by omega)] at hspec
            simp (disch := omega) only [go_sem, Nat.reduceEqDiff, Nat.reduceAdd, ↓reduceIte, get_pushB, get_putB, pickB_t, pickB_f, eqB_t, eqB_f, ltB_t, leB_t, AH.size_push, AH.size_put, AH.ro_push, AH.ro_put]
            · rw [if_pos (show b - i2 ≥ 2 by omega)] at hspec
              refine Sat_loop 3000 (fun k K1 V => ∃ (w : Nat) (f : Array Sp), i2 + 1 ≤ w ∧ w ≤ b ∧ k = b - w ∧ SpAt K1 bx f ∧ f.size = d.size ∧ Sort.shiftUp ltS b w f = Sort.shiftUp ltS b (i2 + 1) (Sort.swp e i2 (i2 - 1)) ∧ Fr bx H K1 ∧ V = [.slice (some ⟨bx, 0, none⟩) d.size 2, .int .i64 a, .int .i64 b, cmpV, .bool false, .int .i64 i2, .int .i64 j, x11, .int .i64 w]) (b - (i2 + 1)) ⟨i2 + 1, (Sort.swp e i2 (i2 - 1)), by omega, by omega, rfl, he4, hes4, rfl, hF4, by simp only [Int.natCast_add]; rfl⟩ ?_
              rintro k K1 V ⟨w, f, hq1, hq2, rfl, hf, hfs, hup, hFu, rfl⟩ ih4
              simp (disch := omega) only [go_sem, Nat.reduceEqDiff, Nat.reduceAdd, ↓reduceIte, get_pushB, get_putB, pickB_t, pickB_f, eqB_t, eqB_f, ltB_t, leB_t, AH.size_push, AH.size_put, AH.ro_push, AH.ro_put]
              have eq2 : (w : Int) - 1 = ((w - 1 : Nat) : Int) := by omega
              refine Split.mk (fun u2 => ?_) (fun u2 => ?_)
              · have x1 := sp_ix bx d.size (w : Int) (by omega) .i64
                have x2 := sp_ix bx d.size ((w - 1 : Nat) : Int) (by omega) .i64
                have l1 := sp_ld hf (w : Int) (by omega)
                have l2 := sp_ld hf ((w - 1 : Nat) : Int) (by omega)
                simp only [Int.toNat_natCast] at l1 l2
                rw [Sort.shiftUp, if_pos (show w < b by omega)] at hup
                simp (disch := omega) only [go_sem, Nat.reduceEqDiff, Nat.reduceAdd, ↓reduceIte, get_pushB, get_putB, pickB_t, pickB_f, eqB_t, eqB_f, ltB_t, leB_t, AH.size_push, AH.size_put, AH.ro_push, AH.ro_put, x1, x2, l1, l2, eq2]
                refine callW_of (cmp_ok K1 _ _) ?_
                rintro r K2 ⟨c, rfl, hc, hc1, hc2, hE3⟩
                have hf2 := hf.ext hE3
                have hFu2 := hFu.trans (Fr.of_ext bx hE3)
                simp (disch := omega) only [go_sem, Nat.reduceEqDiff, Nat.reduceAdd, ↓reduceIte, get_pushB, get_putB, pickB_t, pickB_f, eqB_t, eqB_f, ltB_t, leB_t, AH.size_push, AH.size_put, AH.ro_push, AH.ro_put]
                refine Split.mk (fun u3 => ?_) (fun u3 => ?_)
                · have hlt : ltS f[w]! f[w - 1]! = false := by simp only [ltS, decide_eq_false_iff_not]; exact fun h => u3 (hc.2 h)
                  rw [hlt] at hup
                  simp only [Bool.not_false, if_true] at hup
                  have hsp5 := hspec
                  rw [← hup] at hsp5
                  simp (disch := omega) only [go_sem, Nat.reduceEqDiff, Nat.reduceAdd, ↓reduceIte, get_pushB, get_putB, pickB_t, pickB_f, eqB_t, eqB_f, ltB_t, leB_t, AH.size_push, AH.size_put, AH.ro_push, AH.ro_put]
                  refine ih _ _ _ ?_ ⟨j + 1, i2, _, _, f, by omega, rfl, by omega, by omega, hf2, hfs, (by rw [show 5 - (j + 1) = s by omega]; exact hsp5), hFu2, by rw [Int.natCast_add]; rfl⟩
                  omega
                · have hlt : ltS f[w]! f[w - 1]! = true := by simp only [ltS, decide_eq_true_eq]; exact hc.1 (by omega)
                  rw [hlt] at hup
                  simp only [Bool.not_true, Bool.false_eq_true, if_false] at hup
                  have l1 := sp_ld hf2 (w : Int) (by omega)
                  have l2 := sp_ld hf2 ((w - 1 : Nat) : Int) (by omega)
                  simp only [Int.toNat_natCast] at l1 l2
                  obtain ⟨s1, s2, hf3, hF3⟩ := sp_swap hf2 w (w - 1) (by omega) (by omega)
                  simp (disch := omega) only [go_sem, Nat.reduceEqDiff, Nat.reduceAdd, ↓reduceIte, get_pushB, get_putB, pickB_t, pickB_f, eqB_t, eqB_f, ltB_t, leB_t, AH.size_push, AH.size_put, AH.ro_push, AH.ro_put, x1, x2, l1, l2, eq2, s1, s2]
                  refine ih4 _ _ _ ?_ ⟨w + 1, _, by omega, by omega, rfl, hf3, by rw [swp_size]; exact hfs, hup, hFu2.trans hF3, by simp only [Int.natCast_add]; rfl⟩
                  omega
              · rw [Sort.shiftUp, if_neg (show ¬ w < b by omega)] at hup
                have hsp5 := hspec
                rw [← hup] at hsp5
                simp (disch := omega) only [go_sem, Nat.reduceEqDiff, Nat.reduceAdd, ↓reduceIte, get_pushB, get_putB, pickB_t, pickB_f, eqB_t, eqB_f, ltB_t, leB_t, AH.size_push, AH.size_put, AH.ro_push, AH.ro_put]
                refine ih _ _ _ ?_ ⟨j + 1, i2, _, _, f, by omega, rfl, by omega, by omega, hf, hfs, (by rw [show 5 - (j + 1) = s by omega]; exact hsp5), hFu, by rw [Int.natCast_add]; rfl⟩
                omega
    · have hib : i2 = b := by omega
      rw [scanSorted_end e b i2 (by omega)] at hsc
      simp only [hsc] at hspec
      rw [if_pos hib] at hspec
      simp (disch := omega) only [go_sem, Nat.reduceEqDiff, Nat.reduceAdd, ↓reduceIte, get_pushB, get_putB, pickB_t, pickB_f, eqB_t, eqB_f, ltB_t, leB_t, AH.size_push, AH.size_put, AH.ro_push, AH.ro_put]
      rw [← hspec]
      exact ⟨rfl, he, hF⟩
  · have hj5 : 5 - j = 0 := by omega
    rw [hj5, Sort.partialIns] at hspec
    simp (disch := omega) only [go_sem, Nat.reduceEqDiff, Nat.reduceAdd, ↓reduceIte, get_pushB, get_putB, pickB_t, pickB_f, eqB_t, eqB_f, ltB_t, leB_t, AH.size_push, AH.size_put, AH.ro_push, AH.ro_put]
    rw [← hspec]
    exact ⟨rfl, he, hF⟩
end Go.Proofs.A

/- Sorting: heaps. -/
set_option linter.unusedVariables false
set_option maxRecDepth 8000
set_option maxHeartbeats 4000000
set_option linter.unusedSimpArgs false
namespace Go.Proofs.A
open Go Go.Ab
theorem sift_size (hi first root : Nat) (d : Array Sp) : (Sort.siftDown ltS hi first root d).size = d.size := by
  induction h : hi - root using Nat.strongRecOn generalizing root d with
  | _ n ih =>
    rw [Sort.siftDown]
    split
    · rfl
    · split
      · split
        · rfl
        · split
          · rw [ih (hi - (2 * root + 2)) (by omega) _ _ rfl, swp_size]
          · rfl
      · split
        · rfl
        · rw [ih (hi - (2 * root + 1)) (by omega) _ _ rfl, swp_size]
theorem sift_ok (H : AH) (bx : Nat) (d : Array Sp) (lo hi first : Nat) (h : SpAt H bx d) (hb : first + hi ≤ d.size) (hlo : lo ≤ 1000000000) :
    Runs tb 50 [SV bx d, .int .i64 lo, .int .i64 hi, .int .i64 first, cmpV] H (fun r H' => r = .tuple #[] ∧ SpAt H' bx (Sort.siftDown ltS hi first lo d) ∧ Fr bx H H') := by
  have hbd := h.bd
  unfold SV
  refine Runs_fn (fn := Try.f50) [] [0, 1, 2, 3, 4, 10, 11] [] 3000 (by kernel_rfl) rfl (by kernel_rfl) (by kernel_rfl) rfl ?_; simp only [pad, argAt]
  simp (disch := omega) only [go_sem, Nat.reduceEqDiff, Nat.reduceAdd, ↓reduceIte, get_pushB, get_putB, pickB_t, pickB_f, eqB_t, eqB_f, ltB_t, leB_t, AH.size_push, AH.size_put, AH.ro_push, AH.ro_put]
  refine Sat_loop 3000 (fun k H' V => ∃ (r : Nat) (x : Value) (e : Array Sp), r ≤ 2000000001 ∧ k = hi - r ∧ SpAt H' bx e ∧ e.size = d.size ∧ Sort.siftDown ltS hi first r e = Sort.siftDown ltS hi first lo d ∧ Fr bx H H' ∧ V = [.slice (some ⟨bx, 0, none⟩) d.size 2, .int .i64 lo, .int .i64 hi, .int .i64 first, cmpV, .int .i64 r, x]) (hi - lo) ⟨lo, _, d, by omega, rfl, h, rfl, rfl, Fr.refl _ _, rfl⟩ ?_
  rintro k H' V ⟨r, x, e, hr, rfl, he, hes, hspec, hF, rfl⟩ ih
  rw [Sort.siftDown] at hspec
  have ec : (2 : Int) * r + 1 = ((2 * r + 1 : Nat) : Int) := by omega
  simp (disch := omega) only [go_sem, Nat.reduceEqDiff, Nat.reduceAdd, ↓reduceIte, get_pushB, get_putB, pickB_t, pickB_f, eqB_t, eqB_f, ltB_t, leB_t, AH.size_push, AH.size_put, AH.ro_push, AH.ro_put, ec]
  refine Split.mk (fun h1 => ?_) (fun h1 => ?_)
  · rw [dif_pos (show 2 * r + 1 ≥ hi by omega)] at hspec
    simp (disch := omega) only [go_sem, Nat.reduceEqDiff, Nat.reduceAdd, ↓reduceIte, get_pushB, get_putB, pickB_t, pickB_f, eqB_t, eqB_f, ltB_t, leB_t, AH.size_push, AH.size_put, AH.ro_push, AH.ro_put]
    rw [← hspec]
    exact ⟨he, hF⟩
  · rw [dif_neg (show ¬ 2 * r + 1 ≥ hi by omega)] at hspec
    have ec2 : ((2 * r + 1 : Nat) : Int) + 1 = ((2 * r + 2 : Nat) : Int) := by omega
    have f1 : (first : Int) + ((2 * r + 1 : Nat) : Int) = ((first + (2 * r + 1) : Nat) : Int) := by omega
    have f2 : ((first + (2 * r + 1) : Nat) : Int) + 1 = ((first + (2 * r + 2) : Nat) : Int) := by omega
    have f3 : (first : Int) + ((2 * r + 2 : Nat) : Int) = ((first + (2 * r + 2) : Nat) : Int) := by omega
    have f0 : (first : Int) + r = ((first + r : Nat) : Int) := by omega
    have x0 := sp_ix bx d.size ((first + r : Nat) : Int) (by omega) .i64
    have x1 := sp_ix bx d.size ((first + (2 * r + 1) : Nat) : Int) (by omega) .i64
    have k0 := sp_ld he ((first + r : Nat) : Int) (by omega)
    have k1 := sp_ld he ((first + (2 * r + 1) : Nat) : Int) (by omega)
    simp only [Int.toNat_natCast] at k0 k1
    simp (disch := omega) only [go_sem, Nat.reduceEqDiff, Nat.reduceAdd, ↓reduceIte, get_pushB, get_putB, pickB_t, pickB_f, eqB_t, eqB_f, ltB_t, leB_t, AH.size_push, AH.size_put, AH.ro_push, AH.ro_put, ec2]
    refine SplitG.mk (fun h2 => ?_) (fun h2 => ?_)
    · have x2 := sp_ix bx d.size ((first + (2 * r + 2) : Nat) : Int) (by omega) .i64
      have k2 := sp_ld he ((first + (2 * r + 2) : Nat) : Int) (by omega)
      simp only [Int.toNat_natCast] at k2
      simp (disch := omega) only [go_sem, Nat.reduceEqDiff, Nat.reduceAdd, ↓reduceIte, get_pushB, get_putB, pickB_t, pickB_f, eqB_t, eqB_f, ltB_t, leB_t, AH.size_push, AH.size_put, AH.ro_push, AH.ro_put, f1, f2, x1, x2, k1, k2]
      refine callW_of (cmp_ok H' _ _) ?_
      rintro r' H2 ⟨c, rfl, hc, hc1, hc2, hE2⟩
      have he2 := he.ext hE2
      have hF2 := hF.trans (Fr.of_ext bx hE2)
      simp (disch := omega) only [go_sem, Nat.reduceEqDiff, Nat.reduceAdd, ↓reduceIte, get_pushB, get_putB, pickB_t, pickB_f, eqB_t, eqB_f, ltB_t, leB_t, AH.size_push, AH.size_put, AH.ro_push, AH.ro_put]
      refine Split.mk (fun h3 => ?_) (fun h3 => ?_)
      · have hlt : ltS e[first + (2 * r + 1)]! e[first + (2 * r + 1) + 1]! = true := by simp only [ltS, decide_eq_true_eq]; exact hc.1 (by omega)
        rw [if_pos (show (2 * r + 1 + 1 < hi && ltS e[first + (2 * r + 1)]! e[first + (2 * r + 1) + 1]!) = true by rw [hlt]; simp; omega)] at hspec
        simp (disch := omega) only [go_sem, Nat.reduceEqDiff, Nat.reduceAdd, ↓reduceIte, get_pushB, get_putB, pickB_t, pickB_f, eqB_t, eqB_f, ltB_t, leB_t, AH.size_push, AH.size_put, AH.ro_push, AH.ro_put, ec2]
        have k0 := sp_ld he2 ((first + r : Nat) : Int) (by omega)
        have kc := sp_ld he2 ((first + (2 * r + 2) : Nat) : Int) (by omega)
        simp only [Int.toNat_natCast] at k0 kc
        simp (disch := omega) only [go_sem, Nat.reduceEqDiff, Nat.reduceAdd, ↓reduceIte, get_pushB, get_putB, pickB_t, pickB_f, eqB_t, eqB_f, ltB_t, leB_t, AH.size_push, AH.size_put, AH.ro_push, AH.ro_put, f0, f3, x0, x2, k0, kc]
        refine callW_of (cmp_ok H2 _ _) ?_
        rintro r' H3 ⟨c3, rfl, hc3, hc31, hc32, hE3⟩
        have he3 := he2.ext hE3
        have hF3 := hF2.trans (Fr.of_ext bx hE3)
        simp (disch := omega) only [go_sem, Nat.reduceEqDiff, Nat.reduceAdd, ↓reduceIte, get_pushB, get_putB, pickB_t, pickB_f, eqB_t, eqB_f, ltB_t, leB_t, AH.size_push, AH.size_put, AH.ro_push, AH.ro_put]
        refine Split.mk (fun w1 => ?_) (fun w1 => ?_)
        · have hlt : ltS e[first + r]! e[first + (2 * r + 2)]! = false := by simp only [ltS, decide_eq_false_iff_not]; exact fun h => w1 (hc3.2 h)
          rw [hlt] at hspec
          simp only [Bool.not_false, if_true] at hspec
          simp (disch := omega) only [go_sem, Nat.reduceEqDiff, Nat.reduceAdd, ↓reduceIte, get_pushB, get_putB, pickB_t, pickB_f, eqB_t, eqB_f, ltB_t, leB_t, AH.size_push, AH.size_put, AH.ro_push, AH.ro_put]
          rw [← hspec]
          exact ⟨he3, hF3⟩
        · have hlt : ltS e[first + r]! e[first + (2 * r + 2)]! = true := by simp only [ltS, decide_eq_true_eq]; exact hc3.1 (by omega)
          rw [hlt] at hspec
          simp only [Bool.not_true, Bool.false_eq_true, if_false] at hspec
          rw [dif_pos (show 2 * r + 2 < hi by omega)] at hspec
          have k0 := sp_ld he3 ((first + r : Nat) : Int) (by omega)
          have kc := sp_ld he3 ((first + (2 * r + 2) : Nat) : Int) (by omega)
          simp only [Int.toNat_natCast] at k0 kc
          obtain ⟨s1, s2, he4, hF4⟩ := sp_swap he3 (first + r) (first + (2 * r + 2)) (by omega) (by omega)
          simp (disch := omega) only [go_sem, Nat.reduceEqDiff, Nat.reduceAdd, ↓reduceIte, get_pushB, get_putB, pickB_t, pickB_f, eqB_t, eqB_f, ltB_t, leB_t, AH.size_push, AH.size_put, AH.ro_push, AH.ro_put, f0, f3, x0, x2, k0, kc, s1, s2]
          refine ih _ _ _ ?_ ⟨2 * r + 2, _, _, by omega, rfl, he4, by rw [swp_size]; exact hes, hspec, hF3.trans hF4, rfl⟩
          omega
      · have hlt : ltS e[first + (2 * r + 1)]! e[first + (2 * r + 1) + 1]! = false := by simp only [ltS, decide_eq_false_iff_not]; exact fun h => h3 (hc.2 h)
        rw [if_neg (show ¬ (2 * r + 1 + 1 < hi && ltS e[first + (2 * r + 1)]! e[first + (2 * r + 1) + 1]!) = true by rw [hlt]; simp)] at hspec
        simp (disch := omega) only [go_sem, Nat.reduceEqDiff, Nat.reduceAdd, ↓reduceIte, get_pushB, get_putB, pickB_t, pickB_f, eqB_t, eqB_f, ltB_t, leB_t, AH.size_push, AH.size_put, AH.ro_push, AH.ro_put]
        have k0 := sp_ld he2 ((first + r : Nat) : Int) (by omega)
        have kc := sp_ld he2 ((first + (2 * r + 1) : Nat) : Int) (by omega)
        simp only [Int.toNat_natCast] at k0 kc
        simp (disch := omega) only [go_sem, Nat.reduceEqDiff, Nat.reduceAdd, ↓reduceIte, get_pushB, get_putB, pickB_t, pickB_f, eqB_t, eqB_f, ltB_t, leB_t, AH.size_push, AH.size_put, AH.ro_push, AH.ro_put, f0, f1, x0, x1, k0, kc]
        refine callW_of (cmp_ok H2 _ _) ?_
        rintro r' H3 ⟨c3, rfl, hc3, hc31, hc32, hE3⟩
        have he3 := he2.ext hE3
        have hF3 := hF2.trans (Fr.of_ext bx hE3)
        simp (disch := omega) only [go_sem, Nat.reduceEqDiff, Nat.reduceAdd, ↓reduceIte, get_pushB, get_putB, pickB_t, pickB_f, eqB_t, eqB_f, ltB_t, leB_t, AH.size_push, AH.size_put, AH.ro_push, AH.ro_put]
        refine Split.mk (fun w1 => ?_) (fun w1 => ?_)
        · have hlt : ltS e[first + r]! e[first + (2 * r + 1)]! = false := by simp only [ltS, decide_eq_false_iff_not]; exact fun h => w1 (hc3.2 h)
          rw [hlt] at hspec
          simp only [Bool.not_false, if_true] at hspec
          simp (disch := omega) only [go_sem, Nat.reduceEqDiff, Nat.reduceAdd, ↓reduceIte, get_pushB, get_putB, pickB_t, pickB_f, eqB_t, eqB_f, ltB_t, leB_t, AH.size_push, AH.size_put, AH.ro_push, AH.ro_put]
          rw [← hspec]
          exact ⟨he3, hF3⟩
        · have hlt : ltS e[first + r]! e[first + (2 * r + 1)]! = true := by simp only [ltS, decide_eq_true_eq]; exact hc3.1 (by omega)
          rw [hlt] at hspec
          simp only [Bool.not_true, Bool.false_eq_true, if_false] at hspec
          have k0 := sp_ld he3 ((first + r : Nat) : Int) (by omega)
          have kc := sp_ld he3 ((first + (2 * r + 1) : Nat) : Int) (by omega)
          simp only [Int.toNat_natCast] at k0 kc
          obtain ⟨s1, s2, he4, hF4⟩ := sp_swap he3 (first + r) (first + (2 * r + 1)) (by omega) (by omega)
          simp (disch := omega) only [go_sem, Nat.reduceEqDiff, Nat.reduceAdd, ↓reduceIte, get_pushB, get_putB, pickB_t, pickB_f, eqB_t, eqB_f, ltB_t, leB_t, AH.size_push, AH.size_put, AH.ro_push, AH.ro_put, f0, f1, x0, x1, k0, kc, s1, s2]
          refine ih _ _ _ ?_ ⟨2 * r + 1, _, _, by omega, rfl, he4, by rw [swp_size]; exact hes, hspec, hF3.trans hF4, rfl⟩
          omega
    · rw [if_neg (show ¬ (2 * r + 1 + 1 < hi && ltS e[first + (2 * r + 1)]! e[first + (2 * r + 1) + 1]!) = true by simp; intro h; omega)] at hspec
      simp (disch := omega) only [go_sem, Nat.reduceEqDiff, Nat.reduceAdd, ↓reduceIte, get_pushB, get_putB, pickB_t, pickB_f, eqB_t, eqB_f, ltB_t, leB_t, AH.size_push, AH.size_put, AH.ro_push, AH.ro_put]
      have k0 := sp_ld he ((first + r : Nat) : Int) (by omega)
      have kc := sp_ld he ((first + (2 * r + 1) : Nat) : Int) (by omega)
      simp only [Int.toNat_natCast] at k0 kc
      simp (disch := omega) only [go_sem, Nat.reduceEqDiff, Nat.reduceAdd, ↓reduceIte, get_pushB, get_putB, pickB_t, pickB_f, eqB_t, eqB_f, ltB_t, leB_t, AH.size_push, AH.size_put, AH.ro_push, AH.ro_put, f0, f1, x0, x1, k0, kc]
      refine callW_of (cmp_ok H' _ _) ?_
      rintro r' H3 ⟨c3, rfl, hc3, hc31, hc32, hE3⟩
      have he3 := he.ext hE3
      have hF3 := hF.trans (Fr.of_ext bx hE3)
      simp (disch := omega) only [go_sem, Nat.reduceEqDiff, Nat.reduceAdd, ↓reduceIte, get_pushB, get_putB, pickB_t, pickB_f, eqB_t, eqB_f, ltB_t, leB_t, AH.size_push, AH.size_put, AH.ro_push, AH.ro_put]
      refine Split.mk (fun w1 => ?_) (fun w1 => ?_)
      · have hlt : ltS e[first + r]! e[first + (2 * r + 1)]! = false := by simp only [ltS, decide_eq_false_iff_not]; exact fun h => w1 (hc3.2 h)
        rw [hlt] at hspec
        simp only [Bool.not_false, if_true] at hspec
        simp (disch := omega) only [go_sem, Nat.reduceEqDiff, Nat.reduceAdd, ↓reduceIte, get_pushB, get_putB, pickB_t, pickB_f, eqB_t, eqB_f, ltB_t, leB_t, AH.size_push, AH.size_put, AH.ro_push, AH.ro_put]
        rw [← hspec]
        exact ⟨he3, hF3⟩
      · have hlt : ltS e[first + r]! e[first + (2 * r + 1)]! = true := by simp only [ltS, decide_eq_true_eq]; exact hc3.1 (by omega)
        rw [hlt] at hspec
        simp only [Bool.not_true, Bool.false_eq_true, if_false] at hspec
        have k0 := sp_ld he3 ((first + r : Nat) : Int) (by omega)
        have kc := sp_ld he3 ((first + (2 * r + 1) : Nat) : Int) (by omega)
        simp only [Int.toNat_natCast] at k0 kc
        obtain ⟨s1, s2, he4, hF4⟩ := sp_swap he3 (first + r) (first + (2 * r + 1)) (by omega) (by omega)
        simp (disch := omega) only [go_sem, Nat.reduceEqDiff, Nat.reduceAdd, ↓reduceIte, get_pushB, get_putB, pickB_t, pickB_f, eqB_t, eqB_f, ltB_t, leB_t, AH.size_push, AH.size_put, AH.ro_push, AH.ro_put, f0, f1, x0, x1, k0, kc, s1, s2]
        refine ih _ _ _ ?_ ⟨2 * r + 1, _, _, by omega, rfl, he4, by rw [swp_size]; exact hes, hspec, hF3.trans hF4, rfl⟩
        omega
theorem heapBuild_size (hi first k : Nat) (d : Array Sp) : (Sort.heapBuild ltS hi first k d).size = d.size := by
  induction k generalizing d with
  | zero => rfl
  | succ k ih => rw [Sort.heapBuild, ih, sift_size]
theorem heapPop_size (first k : Nat) (d : Array Sp) : (Sort.heapPop ltS first k d).size = d.size := by
  induction k generalizing d with
  | zero => rfl
  | succ k ih => rw [Sort.heapPop, ih, sift_size, swp_size]
theorem heap_ok (H : AH) (bx : Nat) (d : Array Sp) (a b : Nat) (h : SpAt H bx d) (hab : a < b) (hb : b ≤ d.size) :
    Runs tb 41 [SV bx d, .int .i64 a, .int .i64 b, cmpV] H (fun r H' => r = .tuple #[] ∧ SpAt H' bx (Sort.heapSort ltS d a b) ∧ Fr bx H H') := by
  have hbd := h.bd
  obtain ⟨l, hl⟩ : ∃ l, l = b - a := ⟨_, rfl⟩
  have el : (b : Int) - a = (l : Int) := by omega
  have el1 : (l : Int) - 1 = ((l - 1 : Nat) : Int) := by omega
  have hq : IntKind.i64.wrap (((l - 1 : Nat) : Int).tdiv 2) = ((((l - 1) / 2 + 1 : Nat) : Int) - 1) := by
    rw [IntWalk.i64_quo _ _ ⟨by omega, by omega, by omega⟩]; omega
  unfold SV
  refine Runs_fn (fn := Try.f41) [] [0, 1, 2, 3, 8, 9, 10, 11, 12] [] 3000 (by kernel_rfl) rfl (by kernel_rfl) (by kernel_rfl) rfl ?_; simp only [pad, argAt]
  simp (disch := omega) only [go_sem, Nat.reduceEqDiff, Nat.reduceAdd, ↓reduceIte, get_pushB, get_putB, pickB_t, pickB_f, eqB_t, eqB_f, ltB_t, leB_t, AH.size_push, AH.size_put, AH.ro_push, AH.ro_put, el, el1, hq]
  refine ⟨by decide, ?_⟩
  refine Sat_loop 3000 (fun k H' V => ∃ (z : Int) (x12 : Value) (e : Array Sp), z = (k : Int) - 1 ∧ k ≤ l ∧ SpAt H' bx e ∧ e.size = d.size ∧ Sort.heapBuild ltS l a k e = Sort.heapBuild ltS l a ((l - 1) / 2 + 1) d ∧ Fr bx H H' ∧ V = [.slice (some ⟨bx, 0, none⟩) d.size 2, .int .i64 a, .int .i64 b, cmpV, .int .i64 a, .int .i64 0, .int .i64 l, .int .i64 z, x12]) ((l - 1) / 2 + 1) ⟨_, _, d, rfl, by omega, h, rfl, rfl, Fr.refl _ _, rfl⟩ ?_
  rintro k H' V ⟨z, x12, e, hz, hk, he, hes, hspec, hF, rfl⟩ ih
  simp (disch := omega) only [go_sem, Nat.reduceEqDiff, Nat.reduceAdd, ↓reduceIte, get_pushB, get_putB, pickB_t, pickB_f, eqB_t, eqB_f, ltB_t, leB_t, AH.size_push, AH.size_put, AH.ro_push, AH.ro_put]
  refine Split.mk (fun h1 => ?_) (fun h1 => ?_)
  · obtain ⟨m, rfl⟩ : ∃ m, k = m + 1 := ⟨k - 1, by omega⟩
    obtain rfl : z = (m : Int) := by omega
    rw [Sort.heapBuild] at hspec
    simp (disch := omega) only [go_sem, Nat.reduceEqDiff, Nat.reduceAdd, ↓reduceIte, get_pushB, get_putB, pickB_t, pickB_f, eqB_t, eqB_f, ltB_t, leB_t, AH.size_push, AH.size_put, AH.ro_push, AH.ro_put]
    have hsv : Value.slice (some ⟨bx, 0, none⟩) d.size 2 = SV bx e := by rw [SV, hes]
    rw [hsv]
    refine callW_of (sift_ok H' bx e m l a he (by omega) (by omega)) ?_
    rintro r H2 ⟨rfl, he2, hF2⟩
    rw [← hsv]
    simp (disch := omega) only [go_sem, Nat.reduceEqDiff, Nat.reduceAdd, ↓reduceIte, get_pushB, get_putB, pickB_t, pickB_f, eqB_t, eqB_f, ltB_t, leB_t, AH.size_push, AH.size_put, AH.ro_push, AH.ro_put]
    refine ih m _ _ (by omega) ⟨_, _, _, rfl, by omega, he2, by rw [sift_size]; exact hes, hspec, hF.trans hF2, rfl⟩
  · have hk0 : k = 0 := by omega
    subst hk0
    rw [Sort.heapBuild] at hspec
    simp (disch := omega) only [go_sem, Nat.reduceEqDiff, Nat.reduceAdd, ↓reduceIte, get_pushB, get_putB, pickB_t, pickB_f, eqB_t, eqB_f, ltB_t, leB_t, AH.size_push, AH.size_put, AH.ro_push, AH.ro_put, el1]
    have hsp0 : Sort.heapSort ltS d a b = Sort.heapPop ltS a l e := by rw [hspec, Sort.heapSort, ← hl]
    refine Sat_loop 3000 (fun k H2 V => ∃ (z2 : Int) (f : Array Sp), z2 = (k : Int) - 1 ∧ k ≤ l ∧ SpAt H2 bx f ∧ f.size = d.size ∧ Sort.heapPop ltS a k f = Sort.heapSort ltS d a b ∧ Fr bx H H2 ∧ V = [.slice (some ⟨bx, 0, none⟩) d.size 2, .int .i64 a, .int .i64 b, cmpV, .int .i64 a, .int .i64 0, .int .i64 l, .int .i64 z, .int .i64 z2]) l ⟨_, e, (by omega : ((l - 1 : Nat) : Int) = (l : Int) - 1), by omega, he, hes, hsp0.symm, hF, rfl⟩ ?_
    clear ih
    rintro k H2 V ⟨z2, f, hz2, hk2, hf, hfs, hsp, hF2, rfl⟩ ih
    simp (disch := omega) only [go_sem, Nat.reduceEqDiff, Nat.reduceAdd, ↓reduceIte, get_pushB, get_putB, pickB_t, pickB_f, eqB_t, eqB_f, ltB_t, leB_t, AH.size_push, AH.size_put, AH.ro_push, AH.ro_put]
    refine Split.mk (fun h2 => ?_) (fun h2 => ?_)
    · obtain ⟨m, rfl⟩ : ∃ m, k = m + 1 := ⟨k - 1, by omega⟩
      obtain rfl : z2 = (m : Int) := by omega
      rw [Sort.heapPop] at hsp
      have f1 : (a : Int) + (m : Int) = ((a + m : Nat) : Int) := by omega
      have x0 := sp_ix bx d.size (a : Int) (by omega) .i64
      have x1 := sp_ix bx d.size ((a + m : Nat) : Int) (by omega) .i64
      have k0 := sp_ld hf (a : Int) (by omega)
      have k1 := sp_ld hf ((a + m : Nat) : Int) (by omega)
      simp only [Int.toNat_natCast] at k0 k1
      obtain ⟨s1, s2, he4, hF4⟩ := sp_swap hf a (a + m) (by omega) (by omega)
      simp (disch := omega) only [go_sem, Nat.reduceEqDiff, Nat.reduceAdd, ↓reduceIte, get_pushB, get_putB, pickB_t, pickB_f, eqB_t, eqB_f, ltB_t, leB_t, AH.size_push, AH.size_put, AH.ro_push, AH.ro_put, f1, x0, x1, k0, k1, s1, s2]
      have hsz : (Sort.swp f a (a + m)).size = d.size := by rw [swp_size]; exact hfs
      have hsv : Value.slice (some ⟨bx, 0, none⟩) d.size 2 = SV bx (Sort.swp f a (a + m)) := by rw [SV, hsz]
      rw [hsv]
      refine callW_of (sift_ok _ bx _ 0 m a he4 (by omega) (by omega)) ?_
      rintro r H3 ⟨rfl, he5, hF5⟩
      rw [← hsv]
      simp (disch := omega) only [go_sem, Nat.reduceEqDiff, Nat.reduceAdd, ↓reduceIte, get_pushB, get_putB, pickB_t, pickB_f, eqB_t, eqB_f, ltB_t, leB_t, AH.size_push, AH.size_put, AH.ro_push, AH.ro_put]
      refine ih m _ _ (by omega) ⟨_, _, rfl, by omega, he5, by rw [sift_size]; exact hsz, hsp, (hF2.trans hF4).trans hF5, rfl⟩
    · have hk0 : k = 0 := by omega
      subst hk0
      rw [Sort.heapPop] at hsp
      simp (disch := omega) only [go_sem, Nat.reduceEqDiff, Nat.reduceAdd, ↓reduceIte, get_pushB, get_putB, pickB_t, pickB_f, eqB_t, eqB_f, ltB_t, leB_t, AH.size_push, AH.size_put, AH.ro_push, AH.ro_put]
      rw [← hsp]
      exact ⟨hf, hF2⟩
end Go.Proofs.A

/- Sorting: parting. -/
set_option linter.unusedVariables false
set_option maxRecDepth 8000
set_option maxHeartbeats 4000000
set_option linter.unusedSimpArgs false
namespace Go.Proofs.A
open Go Go.Ab
theorem up_go (p : Sp → Bool) (d : Array Sp) (j i : Nat) (h1 : i ≤ j) (h2 : p d[i]! = true) : Sort.scanUp p d j i = Sort.scanUp p d j (i + 1) := by
  rw [Sort.scanUp, if_pos (by simp [h1, h2])]
theorem up_end (p : Sp → Bool) (d : Array Sp) (j i : Nat) (h : ¬ i ≤ j ∨ p d[i]! = false) : Sort.scanUp p d j i = i := by
  rw [Sort.scanUp, if_neg (by rcases h with h | h <;> simp [h])]
theorem dn_go (p : Sp → Bool) (d : Array Sp) (i j : Nat) (h1 : i ≤ j + 1) (h2 : p d[j + 1]! = true) : Sort.scanDown p d i (j + 1) = Sort.scanDown p d i j := by
  rw [Sort.scanDown, if_pos (by simp [h1, h2])]
theorem dn_end (p : Sp → Bool) (d : Array Sp) (i j : Nat) (h : ¬ i ≤ j ∨ p d[j]! = false) (hi : 1 ≤ i) : Sort.scanDown p d i j = j := by
  cases j with
  | zero => rfl
  | succ j => rw [Sort.scanDown, if_neg (by rcases h with h | h <;> simp [h])]
theorem partLoop_over (a i j p q : Nat) (d : Array Sp) (h1 : Sort.scanUp (fun x => ltS x d[a]!) d j i = p) (h2 : Sort.scanDown (fun x => !ltS x d[a]!) d p j = q) (h : p > q) : Sort.partLoop ltS a i j d = (q, d) := by
  subst h1; subst h2
  rw [Sort.partLoop]
  simp only [h, if_true]
theorem partLoop_go (a i j p q : Nat) (d : Array Sp) (h1 : Sort.scanUp (fun x => ltS x d[a]!) d j i = p) (h2 : Sort.scanDown (fun x => !ltS x d[a]!) d p j = q) (h : ¬ p > q) (hg : (q - 1) + 1 - (p + 1) < j + 1 - i) : Sort.partLoop ltS a i j d = Sort.partLoop ltS a (p + 1) (q - 1) (Sort.swp d p q) := by
  subst h1; subst h2
  rw [Sort.partLoop]
  simp only [h, if_false]
  rw [dif_pos hg]
theorem partEqLoop_over (a i j p q : Nat) (d : Array Sp) (h1 : Sort.scanUp (fun x => !ltS d[a]! x) d j i = p) (h2 : Sort.scanDown (fun x => ltS d[a]! x) d p j = q) (h : p > q) : Sort.partEqLoop ltS a i j d = (p, d) := by
  subst h1; subst h2
  rw [Sort.partEqLoop]
  simp only [h, if_true]
theorem partEqLoop_go (a i j p q : Nat) (d : Array Sp) (h1 : Sort.scanUp (fun x => !ltS d[a]! x) d j i = p) (h2 : Sort.scanDown (fun x => ltS d[a]! x) d p j = q) (h : ¬ p > q) (hg : (q - 1) + 1 - (p + 1) < j + 1 - i) : Sort.partEqLoop ltS a i j d = Sort.partEqLoop ltS a (p + 1) (q - 1) (Sort.swp d p q) := by
  subst h1; subst h2
  rw [Sort.partEqLoop]
  simp only [h, if_false]
  rw [dif_pos hg]
theorem partition_ok (H : AH) (bx : Nat) (d : Array Sp) (a b pv : Nat) (h : SpAt H bx d) (hab : a + 1 < b) (hb : b ≤ d.size) (hpv : pv < b) :
    Runs tb 47 [SV bx d, .int .i64 a, .int .i64 b, .int .i64 pv, cmpV] H (fun r H' => r = .tuple #[.int .i64 (Sort.partition ltS d a b pv).1, .bool (Sort.partition ltS d a b pv).2.1] ∧ SpAt H' bx (Sort.partition ltS d a b pv).2.2 ∧ Fr bx H H') := by
  have hbd := h.bd
  have e1 : (b : Int) - 1 = ((b - 1 : Nat) : Int) := by omega
  have xa := sp_ix bx d.size (a : Int) (by omega) .i64
  have xp := sp_ix bx d.size (pv : Int) (by omega) .i64
  have la := sp_ld h (a : Int) (by omega)
  have lp := sp_ld h (pv : Int) (by omega)
  simp only [Int.toNat_natCast] at la lp
  obtain ⟨s1, s2, he0, hF0⟩ := sp_swap h a pv (by omega) (by omega)
  unfold SV
  refine Runs_fn (fn := Try.f47) [.tmp 10, .tmp 11] [0, 1, 2, 3, 4, 10, 11, 12, 13] [] 3000 (by kernel_rfl) rfl (by kernel_rfl) (by kernel_rfl) rfl ?_; simp only [pad, argAt]
  simp (disch := omega) only [go_sem, Nat.reduceEqDiff, Nat.reduceAdd, ↓reduceIte, get_pushB, get_putB, pickB_t, pickB_f, eqB_t, eqB_f, ltB_t, leB_t, AH.size_push, AH.size_put, AH.ro_push, AH.ro_put, xa, xp, la, lp, s1, s2, e1]
  obtain ⟨e, hee⟩ : ∃ e, e = Sort.swp d a pv := ⟨_, rfl⟩
  have hes : e.size = d.size := by rw [hee, swp_size]
  have hP : Sort.partition ltS d a b pv = (if Sort.scanUp (fun x => ltS x e[a]!) e (b - 1) (a + 1) > Sort.scanDown (fun x => !ltS x e[a]!) e (Sort.scanUp (fun x => ltS x e[a]!) e (b - 1) (a + 1)) (b - 1) then (Sort.scanDown (fun x => !ltS x e[a]!) e (Sort.scanUp (fun x => ltS x e[a]!) e (b - 1) (a + 1)) (b - 1), true, Sort.swp e (Sort.scanDown (fun x => !ltS x e[a]!) e (Sort.scanUp (fun x => ltS x e[a]!) e (b - 1) (a + 1)) (b - 1)) a) else
    ((Sort.partLoop ltS a (Sort.scanUp (fun x => ltS x e[a]!) e (b - 1) (a + 1) + 1) (Sort.scanDown (fun x => !ltS x e[a]!) e (Sort.scanUp (fun x => ltS x e[a]!) e (b - 1) (a + 1)) (b - 1) - 1) (Sort.swp e (Sort.scanUp (fun x => ltS x e[a]!) e (b - 1) (a + 1)) (Sort.scanDown (fun x => !ltS x e[a]!) e (Sort.scanUp (fun x => ltS x e[a]!) e (b - 1) (a + 1)) (b - 1)))).1, false, Sort.swp (Sort.partLoop ltS a (Sort.scanUp (fun x => ltS x e[a]!) e (b - 1) (a + 1) + 1) (Sort.scanDown (fun x => !ltS x e[a]!) e (Sort.scanUp (fun x => ltS x e[a]!) e (b - 1) (a + 1)) (b - 1) - 1) (Sort.swp e (Sort.scanUp (fun x => ltS x e[a]!) e (b - 1) (a + 1)) (Sort.scanDown (fun x => !ltS x e[a]!) e (Sort.scanUp (fun x => ltS x e[a]!) e (b - 1) (a + 1)) (b - 1)))).2 (Sort.partLoop ltS a (Sort.scanUp (fun x => ltS x e[a]!) e (b - 1) (a + 1) + 1) (Sort.scanDown (fun x => !ltS x e[a]!) e (Sort.scanUp (fun x => ltS x e[a]!) e (b - 1) (a + 1)) (b - 1) - 1) (Sort.swp e (Sort.scanUp (fun x => ltS x e[a]!) e (b - 1) (a + 1)) (Sort.scanDown (fun x => !ltS x e[a]!) e (Sort.scanUp (fun x => ltS x e[a]!) e (b - 1) (a + 1)) (b - 1)))).1 a)) := by rw [hee]; rfl
  rw [← hee] at he0 hF0 ⊢
  refine Sat_loop 3000 (fun k K1 V => ∃ (p : Nat), (a + 1) ≤ p ∧ p ≤ (b - 1) + 1 ∧ k = (b - 1) + 1 - p ∧ SpAt K1 bx e ∧ Sort.scanUp (fun x => ltS x e[a]!) e ((b - 1)) ((a + 1)) = Sort.scanUp (fun x => ltS x e[a]!) e ((b - 1)) p ∧ Fr bx H K1 ∧ V = [.slice (some ⟨bx, 0, none⟩) d.size 2, .int .i64 a, .int .i64 b, .int .i64 pv, cmpV, .int .i64 0, .bool false, .int .i64 ((p : Nat) : Int), .int .i64 (((b - 1) : Nat) : Int)]) ((b - 1) + 1 - ((a + 1))) ⟨(a + 1), by omega, by omega, rfl, he0, rfl, hF0, rfl⟩ ?_
  rintro k K1 V ⟨p, hp1, hp2, rfl, he4, hup, hF4, rfl⟩ ih4
  simp (disch := omega) only [go_sem, Nat.reduceEqDiff, Nat.reduceAdd, ↓reduceIte, get_pushB, get_putB, pickB_t, pickB_f, eqB_t, eqB_f, ltB_t, leB_t, AH.size_push, AH.size_put, AH.ro_push, AH.ro_put]
  refine SplitG.mk (fun c1 => ?_) (fun c1 => ?_)
  · have x1 := sp_ix bx d.size (p : Int) (by omega) .i64
    have k1 := sp_ld he4 (p : Int) (by omega)
    have ka := sp_ld he4 (a : Int) (by omega)
    simp only [Int.toNat_natCast] at k1 ka
    simp (disch := omega) only [go_sem, Nat.reduceEqDiff, Nat.reduceAdd, ↓reduceIte, get_pushB, get_putB, pickB_t, pickB_f, eqB_t, eqB_f, ltB_t, leB_t, AH.size_push, AH.size_put, AH.ro_push, AH.ro_put, x1, xa, k1, ka]
    refine callW_of (cmp_ok K1 _ _) ?_
    rintro r K3 ⟨c, rfl, hc, hc1, hc2, hE3⟩
    have he5 := he4.ext hE3
    have hF5 := hF4.trans (Fr.of_ext bx hE3)
    simp (disch := omega) only [go_sem, Nat.reduceEqDiff, Nat.reduceAdd, ↓reduceIte, get_pushB, get_putB, pickB_t, pickB_f, eqB_t, eqB_f, ltB_t, leB_t, AH.size_push, AH.size_put, AH.ro_push, AH.ro_put]
    refine Split.mk (fun c2 => ?_) (fun c2 => ?_)
    · have hlt : ltS e[p]! e[a]! = true := by simp only [ltS, decide_eq_true_eq]; exact hc.1 (by omega)
      rw [up_go (fun x => ltS x e[a]!) e ((b - 1)) p (by omega) (by simp only [hlt, Bool.not_true, Bool.not_false])] at hup
      simp (disch := omega) only [go_sem, Nat.reduceEqDiff, Nat.reduceAdd, ↓reduceIte, get_pushB, get_putB, pickB_t, pickB_f, eqB_t, eqB_f, ltB_t, leB_t, AH.size_push, AH.size_put, AH.ro_push, AH.ro_put]
      refine ih4 _ _ _ ?_ ⟨p + 1, by omega, by omega, rfl, he5, hup, hF5, by simp only [Int.natCast_add]; rfl⟩
      omega
    · have hu : ltS e[p]! e[a]! = false := by simp only [ltS, decide_eq_false_iff_not]; exact fun h => absurd (hc.2 h) (by omega)
      rw [up_end (fun x => ltS x e[a]!) e ((b - 1)) p (.inr (by simp only [hu, Bool.not_true, Bool.not_false]))] at hup
      simp (disch := omega) only [go_sem, Nat.reduceEqDiff, Nat.reduceAdd, ↓reduceIte, get_pushB, get_putB, pickB_t, pickB_f, eqB_t, eqB_f, ltB_t, leB_t, AH.size_push, AH.size_put, AH.ro_push, AH.ro_put]
      refine Sat_loop 3000 (fun k K2 V => ∃ (q : Nat), q ≤ (b - 1) ∧ p ≤ q + 1 ∧ k = q ∧ SpAt K2 bx e ∧ Sort.scanDown (fun x => !ltS x e[a]!) e p (b - 1) = Sort.scanDown (fun x => !ltS x e[a]!) e p q ∧ Fr bx H K2 ∧ V = [.slice (some ⟨bx, 0, none⟩) d.size 2, .int .i64 a, .int .i64 b, .int .i64 pv, cmpV, .int .i64 0, .bool false, .int .i64 ((p : Nat) : Int), .int .i64 ((q : Nat) : Int)]) ((b - 1)) ⟨(b - 1), by omega, by omega, rfl, he5, rfl, hF5, rfl⟩ ?_
      rintro kk K2 V ⟨q, hq1, hq2, hkk, he6, hdn, hF6, rfl⟩ ih6
      simp (disch := omega) only [go_sem, Nat.reduceEqDiff, Nat.reduceAdd, ↓reduceIte, get_pushB, get_putB, pickB_t, pickB_f, eqB_t, eqB_f, ltB_t, leB_t, AH.size_push, AH.size_put, AH.ro_push, AH.ro_put]
      refine SplitG.mk (fun d1 => ?_) (fun d1 => ?_)
      · obtain ⟨q, rfl⟩ : ∃ m, q = m + 1 := ⟨q - 1, by omega⟩
        have x1 := sp_ix bx d.size ((q + 1 : Nat) : Int) (by omega) .i64
        have k1 := sp_ld he6 ((q + 1 : Nat) : Int) (by omega)
        have ka := sp_ld he6 (a : Int) (by omega)
        simp only [Int.toNat_natCast] at k1 ka
        have eq1 : ((q + 1 : Nat) : Int) - 1 = (q : Int) := by omega
        simp (disch := omega) only [go_sem, Nat.reduceEqDiff, Nat.reduceAdd, ↓reduceIte, get_pushB, get_putB, pickB_t, pickB_f, eqB_t, eqB_f, ltB_t, leB_t, AH.size_push, AH.size_put, AH.ro_push, AH.ro_put, x1, xa, k1, ka]
        refine callW_of (cmp_ok K2 _ _) ?_
        rintro r K3 ⟨c, rfl, hc, hc1, hc2, hE3⟩
        have he7 := he6.ext hE3
        have hF7 := hF6.trans (Fr.of_ext bx hE3)
        simp (disch := omega) only [go_sem, Nat.reduceEqDiff, Nat.reduceAdd, ↓reduceIte, get_pushB, get_putB, pickB_t, pickB_f, eqB_t, eqB_f, ltB_t, leB_t, AH.size_push, AH.size_put, AH.ro_push, AH.ro_put]
        refine Split.mk (fun d2 => ?_) (fun d2 => ?_)
        · have hlt : ltS e[q + 1]! e[a]! = false := by simp only [ltS, decide_eq_false_iff_not]; exact fun h => absurd (hc.2 h) (by omega)
          rw [dn_go (fun x => !ltS x e[a]!) e p q (by omega) (by simp only [hlt, Bool.not_true, Bool.not_false])] at hdn
          simp (disch := omega) only [go_sem, Nat.reduceEqDiff, Nat.reduceAdd, ↓reduceIte, get_pushB, get_putB, pickB_t, pickB_f, eqB_t, eqB_f, ltB_t, leB_t, AH.size_push, AH.size_put, AH.ro_push, AH.ro_put, eq1]
          refine ih6 _ _ _ ?_ ⟨q, by omega, by omega, rfl, he7, hdn, hF7, rfl⟩
          omega
        · have hd : ltS e[q + 1]! e[a]! = true := by simp only [ltS, decide_eq_true_eq]; exact hc.1 (by omega)
          rw [dn_end (fun x => !ltS x e[a]!) e p (q + 1) (.inr (by simp only [hd, Bool.not_true, Bool.not_false])) (by omega)] at hdn
          simp (disch := omega) only [go_sem, Nat.reduceEqDiff, Nat.reduceAdd, ↓reduceIte, get_pushB, get_putB, pickB_t, pickB_f, eqB_t, eqB_f, ltB_t, leB_t, AH.size_push, AH.size_put, AH.ro_push, AH.ro_put]
          have hne : p ≠ q + 1 := by
            rintro rfl
            rw [hd] at hu; exact absurd hu (by simp)
          simp only [hup, hdn] at hP
          rw [if_neg (by omega)] at hP
          have y1 := sp_ix bx d.size ((p : Nat) : Int) (by omega) .i64
          have y2 := sp_ix bx d.size ((q + 1 : Nat) : Int) (by omega) .i64
          have z1 := sp_ld he7 ((p : Nat) : Int) (by omega)
          have z2 := sp_ld he7 ((q + 1 : Nat) : Int) (by omega)
          simp only [Int.toNat_natCast] at z1 z2
          obtain ⟨s1, s2, he9, hF9⟩ := sp_swap he7 (p) (q + 1) (by omega) (by omega)
          simp (disch := omega) only [go_sem, Nat.reduceEqDiff, Nat.reduceAdd, ↓reduceIte, get_pushB, get_putB, pickB_t, pickB_f, eqB_t, eqB_f, ltB_t, leB_t, AH.size_push, AH.size_put, AH.ro_push, AH.ro_put, y1, y2, z1, z2, s1, s2, eq1]
          obtain ⟨R, hR⟩ : ∃ R, R = Sort.partLoop ltS a (p + 1) q (Sort.swp e p (q + 1)) := ⟨_, rfl⟩
          have hPR : Sort.partition ltS d a b pv = (R.1, false, Sort.swp R.2 R.1 a) := by rw [hP, hR]; rfl
          refine Sat_loop 3000 (fun k K V => ∃ (i1 j1 : Nat) (g : Array Sp), a + 1 ≤ i1 ∧ i1 ≤ j1 + 1 ∧ j1 < b ∧ k = j1 + 1 - i1 ∧ SpAt K bx g ∧ g.size = d.size ∧ Sort.partLoop ltS a i1 j1 g = R ∧ Fr bx H K ∧ V = [.slice (some ⟨bx, 0, none⟩) d.size 2, .int .i64 a, .int .i64 b, .int .i64 pv, cmpV, .int .i64 0, .bool false, .int .i64 ((i1 : Nat) : Int), .int .i64 ((j1 : Nat) : Int)]) (q + 1 - (p + 1)) ⟨p + 1, q, _, by omega, by omega, by omega, rfl, he9, by rw [swp_size]; exact hes, hR.symm, hF7.trans hF9, by simp only [Int.natCast_add]; rfl⟩ ?_
          clear hup hdn hu hd x1 k1 ka c1 c2 d1 d2 hc ih4 ih6
          rintro km KM V ⟨i1, j1, g, hi1, hi2, hj1, rfl, heg, hgs, hspec, hFg, rfl⟩ ihm
          simp (disch := omega) only [go_sem, Nat.reduceEqDiff, Nat.reduceAdd, ↓reduceIte, get_pushB, get_putB, pickB_t, pickB_f, eqB_t, eqB_f, ltB_t, leB_t, AH.size_push, AH.size_put, AH.ro_push, AH.ro_put]
          refine Sat_loop 3000 (fun k K1 V => ∃ (p : Nat), i1 ≤ p ∧ p ≤ j1 + 1 ∧ k = j1 + 1 - p ∧ SpAt K1 bx g ∧ Sort.scanUp (fun x => ltS x g[a]!) g (j1) (i1) = Sort.scanUp (fun x => ltS x g[a]!) g (j1) p ∧ Fr bx H K1 ∧ V = [.slice (some ⟨bx, 0, none⟩) d.size 2, .int .i64 a, .int .i64 b, .int .i64 pv, cmpV, .int .i64 0, .bool false, .int .i64 ((p : Nat) : Int), .int .i64 ((j1 : Nat) : Int)]) (j1 + 1 - (i1)) ⟨i1, by omega, by omega, rfl, heg, rfl, hFg, rfl⟩ ?_
          rintro k K1 V ⟨p, hp1, hp2, rfl, he4, hup, hF4, rfl⟩ ih4
          simp (disch := omega) only [go_sem, Nat.reduceEqDiff, Nat.reduceAdd, ↓reduceIte, get_pushB, get_putB, pickB_t, pickB_f, eqB_t, eqB_f, ltB_t, leB_t, AH.size_push, AH.size_put, AH.ro_push, AH.ro_put]
          refine SplitG.mk (fun c1 => ?_) (fun c1 => ?_)
          · have x1 := sp_ix bx d.size (p : Int) (by omega) .i64
            have k1 := sp_ld he4 (p : Int) (by omega)
            have ka := sp_ld he4 (a : Int) (by omega)
            simp only [Int.toNat_natCast] at k1 ka
            simp (disch := omega) only [go_sem, Nat.reduceEqDiff, Nat.reduceAdd, ↓reduceIte, get_pushB, get_putB, pickB_t, pickB_f, eqB_t, eqB_f, ltB_t, leB_t, AH.size_push, AH.size_put, AH.ro_push, AH.ro_put, x1, xa, k1, ka]
            refine callW_of (cmp_ok K1 _ _) ?_
            rintro r K3 ⟨c, rfl, hc, hc1, hc2, hE3⟩
            have he5 := he4.ext hE3
            have hF5 := hF4.trans (Fr.of_ext bx hE3)
            simp (disch := omega) only [go_sem, Nat.reduceEqDiff, Nat.reduceAdd, ↓reduceIte, get_pushB, get_putB, pickB_t, pickB_f, eqB_t, eqB_f, ltB_t, leB_t, AH.size_push, AH.size_put, AH.ro_push, AH.ro_put]
            refine Split.mk (fun c2 => ?_) (fun c2 => ?_)
            · have hlt : ltS g[p]! g[a]! = true := by simp only [ltS, decide_eq_true_eq]; exact hc.1 (by omega)
              rw [up_go (fun x => ltS x g[a]!) g (j1) p (by omega) (by simp only [hlt, Bool.not_true, Bool.not_false])] at hup
              simp (disch := omega) only [go_sem, Nat.reduceEqDiff, Nat.reduceAdd, ↓reduceIte, get_pushB, get_putB, pickB_t, pickB_f, eqB_t, eqB_f, ltB_t, leB_t, AH.size_push, AH.size_put, AH.ro_push, AH.ro_put]
              refine ih4 _ _ _ ?_ ⟨p + 1, by omega, by omega, rfl, he5, hup, hF5, by simp only [Int.natCast_add]; rfl⟩
              omega
            · have hu : ltS g[p]! g[a]! = false := by simp only [ltS, decide_eq_false_iff_not]; exact fun h => absurd (hc.2 h) (by omega)
              rw [up_end (fun x => ltS x g[a]!) g (j1) p (.inr (by simp only [hu, Bool.not_true, Bool.not_false]))] at hup
              simp (disch := omega) only [go_sem, Nat.reduceEqDiff, Nat.reduceAdd, ↓reduceIte, get_pushB, get_putB, pickB_t, pickB_f, eqB_t, eqB_f, ltB_t, leB_t, AH.size_push, AH.size_put, AH.ro_push, AH.ro_put]
              refine Sat_loop 3000 (fun k K2 V => ∃ (q : Nat), q ≤ j1 ∧ p ≤ q + 1 ∧ k = q ∧ SpAt K2 bx g ∧ Sort.scanDown (fun x => !ltS x g[a]!) g p j1 = Sort.scanDown (fun x => !ltS x g[a]!) g p q ∧ Fr bx H K2 ∧ V = [.slice (some ⟨bx, 0, none⟩) d.size 2, .int .i64 a, .int .i64 b, .int .i64 pv, cmpV, .int .i64 0, .bool false, .int .i64 ((p : Nat) : Int), .int .i64 ((q : Nat) : Int)]) (j1) ⟨j1, by omega, by omega, rfl, he5, rfl, hF5, rfl⟩ ?_
              rintro kk K2 V ⟨q, hq1, hq2, hkk, he6, hdn, hF6, rfl⟩ ih6
              simp (disch := omega) only [go_sem, Nat.reduceEqDiff, Nat.reduceAdd, ↓reduceIte, get_pushB, get_putB, pickB_t, pickB_f, eqB_t, eqB_f, ltB_t, leB_t, AH.size_push, AH.size_put, AH.ro_push, AH.ro_put]
              refine SplitG.mk (fun d1 => ?_) (fun d1 => ?_)
              · obtain ⟨q, rfl⟩ : ∃ m, q = m + 1 := ⟨q - 1, by omega⟩
                have x1 := sp_ix bx d.size ((q + 1 : Nat) : Int) (by omega) .i64
                have k1 := sp_ld he6 ((q + 1 : Nat) : Int) (by omega)
                have ka := sp_ld he6 (a : Int) (by omega)
                simp only [Int.toNat_natCast] at k1 ka
                have eq1 : ((q + 1 : Nat) : Int) - 1 = (q : Int) := by omega
                simp (disch := omega) only [go_sem, Nat.reduceEqDiff, Nat.reduceAdd, ↓reduceIte, get_pushB, get_putB, pickB_t, pickB_f, eqB_t, eqB_f, ltB_t, leB_t, AH.size_push, AH.size_put, AH.ro_push, AH.ro_put, x1, xa, k1, ka]
                refine callW_of (cmp_ok K2 _ _) ?_
                rintro r K3 ⟨c, rfl, hc, hc1, hc2, hE3⟩
                have he7 := he6.ext hE3
                have hF7 := hF6.trans (Fr.of_ext bx hE3)
                simp (disch := omega) only [go_sem, Nat.reduceEqDiff, Nat.reduceAdd, ↓reduceIte, get_pushB, get_putB, pickB_t, pickB_f, eqB_t, eqB_f, ltB_t, leB_t, AH.size_push, AH.size_put, AH.ro_push, AH.ro_put]
                refine Split.mk (fun d2 => ?_) (fun d2 => ?_)
                · have hlt : ltS g[q + 1]! g[a]! = false := by simp only [ltS, decide_eq_false_iff_not]; exact fun h => absurd (hc.2 h) (by omega)
                  rw [dn_go (fun x => !ltS x g[a]!) g p q (by omega) (by simp only [hlt, Bool.not_true, Bool.not_false])] at hdn
                  simp (disch := omega) only [go_sem, Nat.reduceEqDiff, Nat.reduceAdd, ↓reduceIte, get_pushB, get_putB, pickB_t, pickB_f, eqB_t, eqB_f, ltB_t, leB_t, AH.size_push, AH.size_put, AH.ro_push, AH.ro_put, eq1]
                  refine ih6 _ _ _ ?_ ⟨q, by omega, by omega, rfl, he7, hdn, hF7, rfl⟩
                  omega
                · have hd : ltS g[q + 1]! g[a]! = true := by simp only [ltS, decide_eq_true_eq]; exact hc.1 (by omega)
                  rw [dn_end (fun x => !ltS x g[a]!) g p (q + 1) (.inr (by simp only [hd, Bool.not_true, Bool.not_false])) (by omega)] at hdn
                  simp (disch := omega) only [go_sem, Nat.reduceEqDiff, Nat.reduceAdd, ↓reduceIte, get_pushB, get_putB, pickB_t, pickB_f, eqB_t, eqB_f, ltB_t, leB_t, AH.size_push, AH.size_put, AH.ro_push, AH.ro_put]
                  have hne : p ≠ q + 1 := by
                    rintro rfl
                    rw [hd] at hu; exact absurd hu (by simp)
                  rw [partLoop_go a i1 j1 p (q + 1) g hup hdn (by omega) (by omega)] at hspec
                  have y1 := sp_ix bx d.size ((p : Nat) : Int) (by omega) .i64
                  have y2 := sp_ix bx d.size ((q + 1 : Nat) : Int) (by omega) .i64
                  have z1 := sp_ld he7 ((p : Nat) : Int) (by omega)
                  have z2 := sp_ld he7 ((q + 1 : Nat) : Int) (by omega)
                  simp only [Int.toNat_natCast] at z1 z2
                  obtain ⟨s1, s2, he9, hF9⟩ := sp_swap he7 (p) (q + 1) (by omega) (by omega)
                  simp (disch := omega) only [go_sem, Nat.reduceEqDiff, Nat.reduceAdd, ↓reduceIte, get_pushB, get_putB, pickB_t, pickB_f, eqB_t, eqB_f, ltB_t, leB_t, AH.size_push, AH.size_put, AH.ro_push, AH.ro_put, y1, y2, z1, z2, s1, s2, eq1]
                  refine ihm _ _ _ ?_ ⟨p + 1, q, _, by omega, by omega, by omega, rfl, he9, by rw [swp_size]; exact hgs, hspec, hF7.trans hF9, by simp only [Int.natCast_add]; rfl⟩
                  omega
              · rw [dn_end (fun x => !ltS x g[a]!) g p q (.inl (by omega)) (by omega)] at hdn
                simp (disch := omega) only [go_sem, Nat.reduceEqDiff, Nat.reduceAdd, ↓reduceIte, get_pushB, get_putB, pickB_t, pickB_f, eqB_t, eqB_f, ltB_t, leB_t, AH.size_push, AH.size_put, AH.ro_push, AH.ro_put]
                rw [partLoop_over a i1 j1 p q g hup hdn (by omega)] at hspec
                have y1 := sp_ix bx d.size ((q : Nat) : Int) (by omega) .i64
                have y2 := sp_ix bx d.size ((a : Nat) : Int) (by omega) .i64
                have z1 := sp_ld he6 ((q : Nat) : Int) (by omega)
                have z2 := sp_ld he6 ((a : Nat) : Int) (by omega)
                simp only [Int.toNat_natCast] at z1 z2
                obtain ⟨s1, s2, he9, hF9⟩ := sp_swap he6 (q) (a) (by omega) (by omega)
                simp (disch := omega) only [go_sem, Nat.reduceEqDiff, Nat.reduceAdd, ↓reduceIte, get_pushB, get_putB, pickB_t, pickB_f, eqB_t, eqB_f, ltB_t, leB_t, AH.size_push, AH.size_put, AH.ro_push, AH.ro_put, y1, y2, z1, z2, s1, s2]
                rw [hPR, ← hspec]
                exact ⟨rfl, he9, hF6.trans hF9⟩
          · rw [up_end (fun x => ltS x g[a]!) g (j1) p (.inl (by omega))] at hup
            have hdn0 : Sort.scanDown (fun x => !ltS x g[a]!) g p (j1) = j1 := dn_end (fun x => !ltS x g[a]!) g p (j1) (.inl (by omega)) (by omega)
            simp (disch := omega) only [go_sem, Nat.reduceEqDiff, Nat.reduceAdd, ↓reduceIte, get_pushB, get_putB, pickB_t, pickB_f, eqB_t, eqB_f, ltB_t, leB_t, AH.size_push, AH.size_put, AH.ro_push, AH.ro_put]
            refine Sat_loop 3000 (fun k K2 V => K2 = K1 ∧ V = [.slice (some ⟨bx, 0, none⟩) d.size 2, .int .i64 a, .int .i64 b, .int .i64 pv, cmpV, .int .i64 0, .bool false, .int .i64 ((p : Nat) : Int), .int .i64 ((j1 : Nat) : Int)]) 0 ⟨rfl, rfl⟩ ?_
            rintro kk K2 V ⟨rfl, rfl⟩ ih6
            simp (disch := omega) only [go_sem, Nat.reduceEqDiff, Nat.reduceAdd, ↓reduceIte, get_pushB, get_putB, pickB_t, pickB_f, eqB_t, eqB_f, ltB_t, leB_t, AH.size_push, AH.size_put, AH.ro_push, AH.ro_put]
            have hdn := hdn0
            rw [partLoop_over a i1 j1 p j1 g hup hdn (by omega)] at hspec
            have y1 := sp_ix bx d.size ((j1 : Nat) : Int) (by omega) .i64
            have y2 := sp_ix bx d.size ((a : Nat) : Int) (by omega) .i64
            have z1 := sp_ld he4 ((j1 : Nat) : Int) (by omega)
            have z2 := sp_ld he4 ((a : Nat) : Int) (by omega)
            simp only [Int.toNat_natCast] at z1 z2
            obtain ⟨s1, s2, he9, hF9⟩ := sp_swap he4 (j1) (a) (by omega) (by omega)
            simp (disch := omega) only [go_sem, Nat.reduceEqDiff, Nat.reduceAdd, ↓reduceIte, get_pushB, get_putB, pickB_t, pickB_f, eqB_t, eqB_f, ltB_t, leB_t, AH.size_push, AH.size_put, AH.ro_push, AH.ro_put, y1, y2, z1, z2, s1, s2]
            rw [hPR, ← hspec]
            exact ⟨rfl, he9, hF4.trans hF9⟩
      · rw [dn_end (fun x => !ltS x e[a]!) e p q (.inl (by omega)) (by omega)] at hdn
        simp (disch := omega) only [go_sem, Nat.reduceEqDiff, Nat.reduceAdd, ↓reduceIte, get_pushB, get_putB, pickB_t, pickB_f, eqB_t, eqB_f, ltB_t, leB_t, AH.size_push, AH.size_put, AH.ro_push, AH.ro_put]
        have y1 := sp_ix bx d.size ((q : Nat) : Int) (by omega) .i64
        have y2 := sp_ix bx d.size ((a : Nat) : Int) (by omega) .i64
        have z1 := sp_ld he6 ((q : Nat) : Int) (by omega)
        have z2 := sp_ld he6 ((a : Nat) : Int) (by omega)
        simp only [Int.toNat_natCast] at z1 z2
        obtain ⟨s1, s2, he9, hF9⟩ := sp_swap he6 (q) (a) (by omega) (by omega)
        simp (disch := omega) only [go_sem, Nat.reduceEqDiff, Nat.reduceAdd, ↓reduceIte, get_pushB, get_putB, pickB_t, pickB_f, eqB_t, eqB_f, ltB_t, leB_t, AH.size_push, AH.size_put, AH.ro_push, AH.ro_put, y1, y2, z1, z2, s1, s2]
        simp only [hup, hdn] at hP
        rw [if_pos (by omega)] at hP
        rw [hP]
        exact ⟨rfl, he9, hF6.trans hF9⟩
  · rw [up_end (fun x => ltS x e[a]!) e ((b - 1)) p (.inl (by omega))] at hup
    have hdn0 : Sort.scanDown (fun x => !ltS x e[a]!) e p ((b - 1)) = (b - 1) := dn_end (fun x => !ltS x e[a]!) e p ((b - 1)) (.inl (by omega)) (by omega)
    simp (disch := omega) only [go_sem, Nat.reduceEqDiff, Nat.reduceAdd, ↓reduceIte, get_pushB, get_putB, pickB_t, pickB_f, eqB_t, eqB_f, ltB_t, leB_t, AH.size_push, AH.size_put, AH.ro_push, AH.ro_put]
    refine Sat_loop 3000 (fun k K2 V => K2 = K1 ∧ V = [.slice (some ⟨bx, 0, none⟩) d.size 2, .int .i64 a, .int .i64 b, .int .i64 pv, cmpV, .int .i64 0, .bool false, .int .i64 ((p : Nat) : Int), .int .i64 (((b - 1) : Nat) : Int)]) 0 ⟨rfl, rfl⟩ ?_
    rintro kk K2 V ⟨rfl, rfl⟩ ih6
    simp (disch := omega) only [go_sem, Nat.reduceEqDiff, Nat.reduceAdd, ↓reduceIte, get_pushB, get_putB, pickB_t, pickB_f, eqB_t, eqB_f, ltB_t, leB_t, AH.size_push, AH.size_put, AH.ro_push, AH.ro_put]
    have hdn := hdn0
    have y1 := sp_ix bx d.size (((b - 1) : Nat) : Int) (by omega) .i64
    have y2 := sp_ix bx d.size ((a : Nat) : Int) (by omega) .i64
    have z1 := sp_ld he4 (((b - 1) : Nat) : Int) (by omega)
    have z2 := sp_ld he4 ((a : Nat) : Int) (by omega)
    simp only [Int.toNat_natCast] at z1 z2
    obtain ⟨s1, s2, he9, hF9⟩ := sp_swap he4 ((b - 1)) (a) (by omega) (by omega)
    simp (disch := omega) only [go_sem, Nat.reduceEqDiff, Nat.reduceAdd, ↓reduceIte, get_pushB, get_putB, pickB_t, pickB_f, eqB_t, eqB_f, ltB_t, leB_t, AH.size_push, AH.size_put, AH.ro_push, AH.ro_put, y1, y2, z1, z2, s1, s2]
    simp only [hup, hdn] at hP
    rw [if_pos (by omega)] at hP
    rw [hP]
    exact ⟨rfl, he9, hF4.trans hF9⟩
theorem partitionEqual_ok (H : AH) (bx : Nat) (d : Array Sp) (a b pv : Nat) (h : SpAt H bx d) (hab : a + 1 < b) (hb : b ≤ d.size) (hpv : pv < b) :
    Runs tb 46 [SV bx d, .int .i64 a, .int .i64 b, .int .i64 pv, cmpV] H (fun r H' => r = .int .i64 (Sort.partitionEqual ltS d a b pv).1 ∧ SpAt H' bx (Sort.partitionEqual ltS d a b pv).2 ∧ Fr bx H H') := by
  have hbd := h.bd
  have e1 : (b : Int) - 1 = ((b - 1 : Nat) : Int) := by omega
  have xa := sp_ix bx d.size (a : Int) (by omega) .i64
  have xp := sp_ix bx d.size (pv : Int) (by omega) .i64
  have la := sp_ld h (a : Int) (by omega)
  have lp := sp_ld h (pv : Int) (by omega)
  simp only [Int.toNat_natCast] at la lp
  obtain ⟨s1, s2, he0, hF0⟩ := sp_swap h a pv (by omega) (by omega)
  unfold SV
  refine Runs_fn (fn := Try.f46) [.tmp 10] [0, 1, 2, 3, 4, 10, 11, 12] [] 3000 (by kernel_rfl) rfl (by kernel_rfl) (by kernel_rfl) rfl ?_; simp only [pad, argAt]
  simp (disch := omega) only [go_sem, Nat.reduceEqDiff, Nat.reduceAdd, ↓reduceIte, get_pushB, get_putB, pickB_t, pickB_f, eqB_t, eqB_f, ltB_t, leB_t, AH.size_push, AH.size_put, AH.ro_push, AH.ro_put, xa, xp, la, lp, s1, s2, e1]
  refine Sat_loop 3000 (fun k K V => ∃ (i1 j1 : Nat) (g : Array Sp), a + 1 ≤ i1 ∧ i1 ≤ j1 + 1 ∧ j1 < b ∧ k = j1 + 1 - i1 ∧ SpAt K bx g ∧ g.size = d.size ∧ Sort.partEqLoop ltS a i1 j1 g = Sort.partitionEqual ltS d a b pv ∧ Fr bx H K ∧ V = [.slice (some ⟨bx, 0, none⟩) d.size 2, .int .i64 a, .int .i64 b, .int .i64 pv, cmpV, .int .i64 0, .int .i64 ((i1 : Nat) : Int), .int .i64 ((j1 : Nat) : Int)]) (b - 1 + 1 - (a + 1)) ⟨a + 1, b - 1, _, by omega, by omega, by omega, rfl, he0, by rw [swp_size], rfl, hF0, by simp only [Int.natCast_add]; rfl⟩ ?_
  rintro km KM V ⟨i1, j1, g, hi1, hi2, hj1, rfl, heg, hgs, hspec, hFg, rfl⟩ ihm
  simp (disch := omega) only [go_sem, Nat.reduceEqDiff, Nat.reduceAdd, ↓reduceIte, get_pushB, get_putB, pickB_t, pickB_f, eqB_t, eqB_f, ltB_t, leB_t, AH.size_push, AH.size_put, AH.ro_push, AH.ro_put]
  refine Sat_loop 3000 (fun k K1 V => ∃ (p : Nat), i1 ≤ p ∧ p ≤ j1 + 1 ∧ k = j1 + 1 - p ∧ SpAt K1 bx g ∧ Sort.scanUp (fun x => !ltS g[a]! x) g (j1) (i1) = Sort.scanUp (fun x => !ltS g[a]! x) g (j1) p ∧ Fr bx H K1 ∧ V = [.slice (some ⟨bx, 0, none⟩) d.size 2, .int .i64 a, .int .i64 b, .int .i64 pv, cmpV, .int .i64 0, .int .i64 ((p : Nat) : Int), .int .i64 ((j1 : Nat) : Int)]) (j1 + 1 - (i1)) ⟨i1, by omega, by omega, rfl, heg, rfl, hFg, rfl⟩ ?_
  rintro k K1 V ⟨p, hp1, hp2, rfl, he4, hup, hF4, rfl⟩ ih4
  simp (disch := omega) only [go_sem, Nat.reduceEqDiff, Nat.reduceAdd, ↓reduceIte, get_pushB, get_putB, pickB_t, pickB_f, eqB_t, eqB_f, ltB_t, leB_t, AH.size_push, AH.size_put, AH.ro_push, AH.ro_put]
  refine SplitG.mk (fun c1 => ?_) (fun c1 => ?_)
  · have x1 := sp_ix bx d.size (p : Int) (by omega) .i64
    have k1 := sp_ld he4 (p : Int) (by omega)
    have ka := sp_ld he4 (a : Int) (by omega)
    simp only [Int.toNat_natCast] at k1 ka
    simp (disch := omega) only [go_sem, Nat.reduceEqDiff, Nat.reduceAdd, ↓reduceIte, get_pushB, get_putB, pickB_t, pickB_f, eqB_t, eqB_f, ltB_t, leB_t, AH.size_push, AH.size_put, AH.ro_push, AH.ro_put, x1, xa, k1, ka]
    refine callW_of (cmp_ok K1 _ _) ?_
    rintro r K3 ⟨c, rfl, hc, hc1, hc2, hE3⟩
    have he5 := he4.ext hE3
    have hF5 := hF4.trans (Fr.of_ext bx hE3)
    simp (disch := omega) only [go_sem, Nat.reduceEqDiff, Nat.reduceAdd, ↓reduceIte, get_pushB, get_putB, pickB_t, pickB_f, eqB_t, eqB_f, ltB_t, leB_t, AH.size_push, AH.size_put, AH.ro_push, AH.ro_put]
    refine Split.mk (fun c2 => ?_) (fun c2 => ?_)
    · have hlt : ltS g[a]! g[p]! = false := by simp only [ltS, decide_eq_false_iff_not]; exact fun h => absurd (hc.2 h) (by omega)
      rw [up_go (fun x => !ltS g[a]! x) g (j1) p (by omega) (by simp only [hlt, Bool.not_true, Bool.not_false])] at hup
      simp (disch := omega) only [go_sem, Nat.reduceEqDiff, Nat.reduceAdd, ↓reduceIte, get_pushB, get_putB, pickB_t, pickB_f, eqB_t, eqB_f, ltB_t, leB_t, AH.size_push, AH.size_put, AH.ro_push, AH.ro_put]
      refine ih4 _ _ _ ?_ ⟨p + 1, by omega, by omega, rfl, he5, hup, hF5, by simp only [Int.natCast_add]; rfl⟩
      omega
    · have hu : ltS g[a]! g[p]! = true := by simp only [ltS, decide_eq_true_eq]; exact hc.1 (by omega)
      rw [up_end (fun x => !ltS g[a]! x) g (j1) p (.inr (by simp only [hu, Bool.not_true, Bool.not_false]))] at hup
      simp (disch := omega) only [go_sem, Nat.reduceEqDiff, Nat.reduceAdd, ↓reduceIte, get_pushB, get_putB, pickB_t, pickB_f, eqB_t, eqB_f, ltB_t, leB_t, AH.size_push, AH.size_put, AH.ro_push, AH.ro_put]
      refine Sat_loop 3000 (fun k K2 V => ∃ (q : Nat), q ≤ j1 ∧ p ≤ q + 1 ∧ k = q ∧ SpAt K2 bx g ∧ Sort.scanDown (fun x => ltS g[a]! x) g p j1 = Sort.scanDown (fun x => ltS g[a]! x) g p q ∧ Fr bx H K2 ∧ V = [.slice (some ⟨bx, 0, none⟩) d.size 2, .int .i64 a, .int .i64 b, .int .i64 pv, cmpV, .int .i64 0, .int .i64 ((p : Nat) : Int), .int .i64 ((q : Nat) : Int)]) (j1) ⟨j1, by omega, by omega, rfl, he5, rfl, hF5, rfl⟩ ?_
      rintro kk K2 V ⟨q, hq1, hq2, hkk, he6, hdn, hF6, rfl⟩ ih6
      simp (disch := omega) only [go_sem, Nat.reduceEqDiff, Nat.reduceAdd, ↓reduceIte, get_pushB, get_putB, pickB_t, pickB_f, eqB_t, eqB_f, ltB_t, leB_t, AH.size_push, AH.size_put, AH.ro_push, AH.ro_put]
      refine SplitG.mk (fun d1 => ?_) (fun d1 => ?_)
      · obtain ⟨q, rfl⟩ : ∃ m, q = m + 1 := ⟨q - 1, by omega⟩
        have x1 := sp_ix bx d.size ((q + 1 : Nat) : Int) (by omega) .i64
        have k1 := sp_ld he6 ((q + 1 : Nat) : Int) (by omega)
        have ka := sp_ld he6 (a : Int) (by omega)
        simp only [Int.toNat_natCast] at k1 ka
        have eq1 : ((q + 1 : Nat) : Int) - 1 = (q : Int) := by omega
        simp (disch := omega) only [go_sem, Nat.reduceEqDiff, Nat.reduceAdd, ↓reduceIte, get_pushB, get_putB, pickB_t, pickB_f, eqB_t, eqB_f, ltB_t, leB_t, AH.size_push, AH.size_put, AH.ro_push, AH.ro_put, x1, xa, k1, ka]
        refine callW_of (cmp_ok K2 _ _) ?_
        rintro r K3 ⟨c, rfl, hc, hc1, hc2, hE3⟩
        have he7 := he6.ext hE3
        have hF7 := hF6.trans (Fr.of_ext bx hE3)
        simp (disch := omega) only [go_sem, Nat.reduceEqDiff, Nat.reduceAdd, ↓reduceIte, get_pushB, get_putB, pickB_t, pickB_f, eqB_t, eqB_f, ltB_t, leB_t, AH.size_push, AH.size_put, AH.ro_push, AH.ro_put]
        refine Split.mk (fun d2 => ?_) (fun d2 => ?_)
        · have hlt : ltS g[a]! g[q + 1]! = true := by simp only [ltS, decide_eq_true_eq]; exact hc.1 (by omega)
          rw [dn_go (fun x => ltS g[a]! x) g p q (by omega) (by simp only [hlt, Bool.not_true, Bool.not_false])] at hdn
          simp (disch := omega) only [go_sem, Nat.reduceEqDiff, Nat.reduceAdd, ↓reduceIte, get_pushB, get_putB, pickB_t, pickB_f, eqB_t, eqB_f, ltB_t, leB_t, AH.size_push, AH.size_put, AH.ro_push, AH.ro_put, eq1]
          refine ih6 _ _ _ ?_ ⟨q, by omega, by omega, rfl, he7, hdn, hF7, rfl⟩
          omega
        · have hd : ltS g[a]! g[q + 1]! = false := by simp only [ltS, decide_eq_false_iff_not]; exact fun h => absurd (hc.2 h) (by omega)
          rw [dn_end (fun x => ltS g[a]! x) g p (q + 1) (.inr (by simp only [hd, Bool.not_true, Bool.not_false])) (by omega)] at hdn
          simp (disch := omega) only [go_sem, Nat.reduceEqDiff, Nat.reduceAdd, ↓reduceIte, get_pushB, get_putB, pickB_t, pickB_f, eqB_t, eqB_f, ltB_t, leB_t, AH.size_push, AH.size_put, AH.ro_push, AH.ro_put]
          have hne : p ≠ q + 1 := by
            rintro rfl
            rw [hd] at hu; exact absurd hu (by simp)
          rw [partEqLoop_go a i1 j1 p (q + 1) g hup hdn (by omega) (by omega)] at hspec
          have y1 := sp_ix bx d.size ((p : Nat) : Int) (by omega) .i64
          have y2 := sp_ix bx d.size ((q + 1 : Nat) : Int) (by omega) .i64
          have z1 := sp_ld he7 ((p : Nat) : Int) (by omega)
          have z2 := sp_ld he7 ((q + 1 : Nat) : Int) (by omega)
          simp only [Int.toNat_natCast] at z1 z2
          obtain ⟨s1, s2, he9, hF9⟩ := sp_swap he7 (p) (q + 1) (by omega) (by omega)
          simp (disch := omega) only [go_sem, Nat.reduceEqDiff, Nat.reduceAdd, ↓reduceIte, get_pushB, get_putB, pickB_t, pickB_f, eqB_t, eqB_f, ltB_t, leB_t, AH.size_push, AH.size_put, AH.ro_push, AH.ro_put, y1, y2, z1, z2, s1, s2, eq1]
          refine ihm _ _ _ ?_ ⟨p + 1, q, _, by omega, by omega, by omega, rfl, he9, by rw [swp_size]; exact hgs, hspec, hF7.trans hF9, by simp only [Int.natCast_add]; rfl⟩
          omega
      · rw [dn_end (fun x => ltS g[a]! x) g p q (.inl (by omega)) (by omega)] at hdn
        simp (disch := omega) only [go_sem, Nat.reduceEqDiff, Nat.reduceAdd, ↓reduceIte, get_pushB, get_putB, pickB_t, pickB_f, eqB_t, eqB_f, ltB_t, leB_t, AH.size_push, AH.size_put, AH.ro_push, AH.ro_put]
        rw [partEqLoop_over a i1 j1 p q g hup hdn (by omega)] at hspec
        rw [← hspec]
        exact ⟨rfl, he6, hF6⟩
  · rw [up_end (fun x => !ltS g[a]! x) g (j1) p (.inl (by omega))] at hup
    have hdn0 : Sort.scanDown (fun x => ltS g[a]! x) g p (j1) = j1 := dn_end (fun x => ltS g[a]! x) g p (j1) (.inl (by omega)) (by omega)
    simp (disch := omega) only [go_sem, Nat.reduceEqDiff, Nat.reduceAdd, ↓reduceIte, get_pushB, get_putB, pickB_t, pickB_f, eqB_t, eqB_f, ltB_t, leB_t, AH.size_push, AH.size_put, AH.ro_push, AH.ro_put]
    refine Sat_loop 3000 (fun k K2 V => K2 = K1 ∧ V = [.slice (some ⟨bx, 0, none⟩) d.size 2, .int .i64 a, .int .i64 b, .int .i64 pv, cmpV, .int .i64 0, .int .i64 ((p : Nat) : Int), .int .i64 ((j1 : Nat) : Int)]) 0 ⟨rfl, rfl⟩ ?_
    rintro kk K2 V ⟨rfl, rfl⟩ ih6
    simp (disch := omega) only [go_sem, Nat.reduceEqDiff, Nat.reduceAdd, ↓reduceIte, get_pushB, get_putB, pickB_t, pickB_f, eqB_t, eqB_f, ltB_t, leB_t, AH.size_push, AH.size_put, AH.ro_push, AH.ro_put]
    have hdn := hdn0
    rw [partEqLoop_over a i1 j1 p j1 g hup hdn (by omega)] at hspec
    rw [← hspec]
    exact ⟨rfl, he4, hF4⟩
end Go.Proofs.A

/- Sorting: breaking patterns. -/
set_option linter.unusedVariables false
set_option maxRecDepth 8000
set_option maxHeartbeats 4000000
set_option linter.unusedSimpArgs false
namespace Go.Proofs.A
open Go Go.Ab
theorem shr_u (t : TypeId) (x k : Nat) (hk : k ≤ 64) : abin tb .shr t (.int .u64 (x : Int)) (.int .u64 (k : Int)) = some (.int .u64 ((x / 2 ^ k : Nat) : Int)) := by
  have h : ashift .shr .u64 (x : Int) (k : Int) = some (.int .u64 ((x / 2 ^ k : Nat) : Int)) := by
    unfold ashift
    rw [if_neg (by omega)]
    simp only [Int.toNat_natCast]
    rw [show min k IntKind.u64.bits = k from Nat.min_eq_left hk, Int.fdiv_eq_ediv_of_nonneg _ (Int.pow_nonneg (by omega))]
    simp
  exact h
theorem shl_u (t : TypeId) (x k : Nat) (hk : k ≤ 64) (kk : IntKind) : abin tb .shl t (.int .u64 (x : Int)) (.int kk (k : Int)) = some (.int .u64 ((x * 2 ^ k % 18446744073709551616 : Nat) : Int)) := by
  have h : ashift .shl .u64 (x : Int) (k : Int) = some (.int .u64 ((x * 2 ^ k % 18446744073709551616 : Nat) : Int)) := by
    unfold ashift
    rw [if_neg (by omega)]
    simp only [Int.toNat_natCast]
    rw [show min k IntKind.u64.bits = k from Nat.min_eq_left hk, IntKind.wrap_u64]
    simp
  exact h
theorem xor_u (t : TypeId) (x y : Nat) (hx : x < 18446744073709551616) (hy : y < 18446744073709551616) : abin tb .xor t (.int .u64 (x : Int)) (.int .u64 (y : Int)) = some (.int .u64 ((x ^^^ y : Nat) : Int)) := by
  rw [← bits_xor_u64_nat x y hx hy]; rfl
theorem and_u (t : TypeId) (x y : Nat) (hx : x < 18446744073709551616) (hy : y < 18446744073709551616) : abin tb .and t (.int .u64 (x : Int)) (.int .u64 (y : Int)) = some (.int .u64 ((x &&& y : Nat) : Int)) := by
  rw [← bits_and_u64_nat x y hx hy]; rfl
theorem bl_eq (n : Nat) : Sort.bitsLen n = bitLen n := rfl
theorem Next_ok (H : AH) (s : Nat) (x : Nat) (hx : x < 18446744073709551616) (hs : H.get s = some [.int .u64 x]) (hro : H.ro ≤ s) : Runs tb 52 [.pointer (some ⟨s, 0, none⟩)] H (fun r H' => r = .int .u64 (Sort.xorNextN x : Nat) ∧ H'.get s = some [.int .u64 (Sort.xorNextN x : Nat)] ∧ Fr s H H') := by
  have hsb := AH.lt_of_get hs
  obtain ⟨A, hA⟩ : ∃ A : Nat, A = x ^^^ (x * 8192 % 18446744073709551616) := ⟨_, rfl⟩
  obtain ⟨B, hB⟩ : ∃ B : Nat, B = A ^^^ (A / 128) := ⟨_, rfl⟩
  obtain ⟨C, hC⟩ : ∃ C : Nat, C = B ^^^ (B * 131072 % 18446744073709551616) := ⟨_, rfl⟩
  have lA : A < 18446744073709551616 := by rw [hA]; exact Nat.xor_lt_two_pow (n := 64) (by omega) (by omega)
  have lB : B < 18446744073709551616 := by rw [hB]; exact Nat.xor_lt_two_pow (n := 64) (by omega) (by omega)
  have hv : Sort.xorNextN x = C := by unfold Sort.xorNextN; simp only []; rw [← hA, ← hB, ← hC]
  rw [hv]
  have e1 : ∀ t, abin tb .shl t (.int .u64 (x : Int)) (.int .u64 13) = some (.int .u64 ((x * 8192 % 18446744073709551616 : Nat) : Int)) := fun t => shl_u t x 13 (by omega) .u64
  have e2 : ∀ t, abin tb .xor t (.int .u64 (x : Int)) (.int .u64 ((x * 8192 % 18446744073709551616 : Nat) : Int)) = some (.int .u64 (A : Int)) := fun t => by rw [hA]; exact xor_u t _ _ hx (Nat.mod_lt _ (by omega))
  have e3 : ∀ t, abin tb .shr t (.int .u64 (A : Int)) (.int .u64 7) = some (.int .u64 ((A / 128 : Nat) : Int)) := fun t => shr_u t A 7 (by omega)
  have e4 : ∀ t, abin tb .xor t (.int .u64 (A : Int)) (.int .u64 ((A / 128 : Nat) : Int)) = some (.int .u64 (B : Int)) := fun t => by rw [hB]; exact xor_u t _ _ lA (by omega)
  have e5 : ∀ t, abin tb .shl t (.int .u64 (B : Int)) (.int .u64 17) = some (.int .u64 ((B * 131072 % 18446744073709551616 : Nat) : Int)) := fun t => shl_u t B 17 (by omega) .u64
  have e6 : ∀ t, abin tb .xor t (.int .u64 (B : Int)) (.int .u64 ((B * 131072 % 18446744073709551616 : Nat) : Int)) = some (.int .u64 (C : Int)) := fun t => by rw [hC]; exact xor_u t _ _ lB (Nat.mod_lt _ (by omega))
  refine Runs_fn (fn := Try.f52) [.tmp 2] [0, 2] [] 3000 (by kernel_rfl) rfl (by kernel_rfl) (by kernel_rfl) rfl ?_; simp only [pad, argAt]
  simp (disch := omega) only [go_sem, Nat.reduceEqDiff, Nat.reduceAdd, ↓reduceIte, get_pushB, get_putB, pickB_t, pickB_f, eqB_t, eqB_f, ltB_t, leB_t, AH.size_push, AH.size_put, AH.ro_push, AH.ro_put, hs, e1, e2, e3, e4, e5, e6]
  exact ((Fr.put s H hsb _).trans (Fr.put s _ (by simpa using hsb) _)).trans (Fr.put s _ (by simpa using hsb) _)
theorem ix8 (S : ByteArray) (n : Int) (hn : 0 ≤ n ∧ n < 256) (hS : (List.range 256).all (fun i => S[i]? == some (UInt8.ofNat (Sort.bitsLen i))) = true) : index2 tb 9 (some (.string S)) (some (.int .u8 n)) = some (.int .u8 (Sort.bitsLen n.toNat : Nat)) := by
  have h := (List.all_eq_true.1 hS) n.toNat (by simp; omega)
  have h := eq_of_beq h
  have hl : Sort.bitsLen n.toNat ≤ 8 := bitLen_le8 _ (by omega)
  simp only [index2, go_sem, if_pos hn.1, h, UInt8.toNat_ofNat']
  rw [Nat.mod_eq_of_lt (by omega)]
theorem Len64_ok (H : AH) (x : Nat) (hx : x < 18446744073709551616) : Runs tb 49 [.int .u64 x] H (fun r H' => r = .int .i64 (Sort.bitsLen x) ∧ H' = H) := by
  have f32 : ∀ t (z : Nat), abin tb .shr t (.int .u64 (z : Int)) (.int .u64 32) = some (.int .u64 ((z / 4294967296 : Nat) : Int)) := fun t z => shr_u t z 32 (by omega)
  have f16 : ∀ t (z : Nat), abin tb .shr t (.int .u64 (z : Int)) (.int .u64 16) = some (.int .u64 ((z / 65536 : Nat) : Int)) := fun t z => shr_u t z 16 (by omega)
  have f8 : ∀ t (z : Nat), abin tb .shr t (.int .u64 (z : Int)) (.int .u64 8) = some (.int .u64 ((z / 256 : Nat) : Int)) := fun t z => shr_u t z 8 (by omega)
  refine Runs_fn (fn := Try.f49) [.tmp 2] [0, 2] [] 3000 (by kernel_rfl) rfl (by kernel_rfl) (by kernel_rfl) rfl ?_; simp only [pad, argAt]
  simp (disch := omega) only [go_sem, Nat.reduceEqDiff, Nat.reduceAdd, ↓reduceIte, get_pushB, get_putB, pickB_t, pickB_f, eqB_t, eqB_f, ltB_t, leB_t, AH.size_push, AH.size_put, AH.ro_push, AH.ro_put]
  refine Split.mk (fun h1 => ?_) (fun h1 => ?_)
  · simp (disch := omega) only [go_sem, Nat.reduceEqDiff, Nat.reduceAdd, ↓reduceIte, get_pushB, get_putB, pickB_t, pickB_f, eqB_t, eqB_f, ltB_t, leB_t, AH.size_push, AH.size_put, AH.ro_push, AH.ro_put, f32]
    refine Split.mk (fun h2 => ?_) (fun h2 => ?_)
    · simp (disch := omega) only [go_sem, Nat.reduceEqDiff, Nat.reduceAdd, ↓reduceIte, get_pushB, get_putB, pickB_t, pickB_f, eqB_t, eqB_f, ltB_t, leB_t, AH.size_push, AH.size_put, AH.ro_push, AH.ro_put, f16]
      refine Split.mk (fun h3 => ?_) (fun h3 => ?_)
      · simp (disch := omega) only [go_sem, Nat.reduceEqDiff, Nat.reduceAdd, ↓reduceIte, get_pushB, get_putB, pickB_t, pickB_f, eqB_t, eqB_f, ltB_t, leB_t, AH.size_push, AH.size_put, AH.ro_push, AH.ro_put, f8]
        have hw : IntKind.u8.wrap ((x / 4294967296 / 65536 / 256 : Nat) : Int) = ((x / 4294967296 / 65536 / 256 : Nat) : Int) := by rw [IntKind.wrap_u8']; omega
        rw [hw, ix8 _ _ (by omega)]
        · rw [Int.toNat_natCast]
          have hl : Sort.bitsLen (x / 4294967296 / 65536 / 256) ≤ 8 := bitLen_le8 _ (by omega)
          have g0 : Sort.bitsLen (x) = 32 + Sort.bitsLen (x / 4294967296) := bitLen_shift (x) 32 (by show ¬ x / 4294967296 = 0; omega)
          have g1 : Sort.bitsLen (x / 4294967296) = 16 + Sort.bitsLen (x / 4294967296 / 65536) := bitLen_shift (x / 4294967296) 16 (by show ¬ x / 4294967296 / 65536 = 0; omega)
          have g2 : Sort.bitsLen (x / 4294967296 / 65536) = 8 + Sort.bitsLen (x / 4294967296 / 65536 / 256) := bitLen_shift (x / 4294967296 / 65536) 8 (by show ¬ x / 4294967296 / 65536 / 256 = 0; omega)
          simp (disch := omega) only [go_sem, Nat.reduceEqDiff, Nat.reduceAdd, ↓reduceIte, get_pushB, get_putB, pickB_t, pickB_f, eqB_t, eqB_f, ltB_t, leB_t, AH.size_push, AH.size_put, AH.ro_push, AH.ro_put]
          exact ⟨congrArg _ (by omega), by trivial⟩
        · kernel_rfl
      · simp (disch := omega) only [go_sem, Nat.reduceEqDiff, Nat.reduceAdd, ↓reduceIte, get_pushB, get_putB, pickB_t, pickB_f, eqB_t, eqB_f, ltB_t, leB_t, AH.size_push, AH.size_put, AH.ro_push, AH.ro_put]
        have hw : IntKind.u8.wrap ((x / 4294967296 / 65536 : Nat) : Int) = ((x / 4294967296 / 65536 : Nat) : Int) := by rw [IntKind.wrap_u8']; omega
        rw [hw, ix8 _ _ (by omega)]
        · rw [Int.toNat_natCast]
          have hl : Sort.bitsLen (x / 4294967296 / 65536) ≤ 8 := bitLen_le8 _ (by omega)
          have g0 : Sort.bitsLen (x) = 32 + Sort.bitsLen (x / 4294967296) := bitLen_shift (x) 32 (by show ¬ x / 4294967296 = 0; omega)
          have g1 : Sort.bitsLen (x / 4294967296) = 16 + Sort.bitsLen (x / 4294967296 / 65536) := bitLen_shift (x / 4294967296) 16 (by show ¬ x / 4294967296 / 65536 = 0; omega)
          simp (disch := omega) only [go_sem, Nat.reduceEqDiff, Nat.reduceAdd, ↓reduceIte, get_pushB, get_putB, pickB_t, pickB_f, eqB_t, eqB_f, ltB_t, leB_t, AH.size_push, AH.size_put, AH.ro_push, AH.ro_put]
          exact ⟨congrArg _ (by omega), by trivial⟩
        · kernel_rfl
    · simp (disch := omega) only [go_sem, Nat.reduceEqDiff, Nat.reduceAdd, ↓reduceIte, get_pushB, get_putB, pickB_t, pickB_f, eqB_t, eqB_f, ltB_t, leB_t, AH.size_push, AH.size_put, AH.ro_push, AH.ro_put]
      refine Split.mk (fun h3 => ?_) (fun h3 => ?_)
      · simp (disch := omega) only [go_sem, Nat.reduceEqDiff, Nat.reduceAdd, ↓reduceIte, get_pushB, get_putB, pickB_t, pickB_f, eqB_t, eqB_f, ltB_t, leB_t, AH.size_push, AH.size_put, AH.ro_push, AH.ro_put, f8]
        have hw : IntKind.u8.wrap ((x / 4294967296 / 256 : Nat) : Int) = ((x / 4294967296 / 256 : Nat) : Int) := by rw [IntKind.wrap_u8']; omega
        rw [hw, ix8 _ _ (by omega)]
        · rw [Int.toNat_natCast]
          have hl : Sort.bitsLen (x / 4294967296 / 256) ≤ 8 := bitLen_le8 _ (by omega)
          have g0 : Sort.bitsLen (x) = 32 + Sort.bitsLen (x / 4294967296) := bitLen_shift (x) 32 (by show ¬ x / 4294967296 = 0; omega)
          have g1 : Sort.bitsLen (x / 4294967296) = 8 + Sort.bitsLen (x / 4294967296 / 256) := bitLen_shift (x / 4294967296) 8 (by show ¬ x / 4294967296 / 256 = 0; omega)
          simp (disch := omega) only [go_sem, Nat.reduceEqDiff, Nat.reduceAdd, ↓reduceIte, get_pushB, get_putB, pickB_t, pickB_f, eqB_t, eqB_f, ltB_t, leB_t, AH.size_push, AH.size_put, AH.ro_push, AH.ro_put]
          exact ⟨congrArg _ (by omega), by trivial⟩
        · kernel_rfl
      · simp (disch := omega) only [go_sem, Nat.reduceEqDiff, Nat.reduceAdd, ↓reduceIte, get_pushB, get_putB, pickB_t, pickB_f, eqB_t, eqB_f, ltB_t, leB_t, AH.size_push, AH.size_put, AH.ro_push, AH.ro_put]
        have hw : IntKind.u8.wrap ((x / 4294967296 : Nat) : Int) = ((x / 4294967296 : Nat) : Int) := by rw [IntKind.wrap_u8']; omega
        rw [hw, ix8 _ _ (by omega)]
        · rw [Int.toNat_natCast]
          have hl : Sort.bitsLen (x / 4294967296) ≤ 8 := bitLen_le8 _ (by omega)
          have g0 : Sort.bitsLen (x) = 32 + Sort.bitsLen (x / 4294967296) := bitLen_shift (x) 32 (by show ¬ x / 4294967296 = 0; omega)
          simp (disch := omega) only [go_sem, Nat.reduceEqDiff, Nat.reduceAdd, ↓reduceIte, get_pushB, get_putB, pickB_t, pickB_f, eqB_t, eqB_f, ltB_t, leB_t, AH.size_push, AH.size_put, AH.ro_push, AH.ro_put]
          exact ⟨congrArg _ (by omega), by trivial⟩
        · kernel_rfl
  · simp (disch := omega) only [go_sem, Nat.reduceEqDiff, Nat.reduceAdd, ↓reduceIte, get_pushB, get_putB, pickB_t, pickB_f, eqB_t, eqB_f, ltB_t, leB_t, AH.size_push, AH.size_put, AH.ro_push, AH.ro_put]
    refine Split.mk (fun h2 => ?_) (fun h2 => ?_)
    · simp (disch := omega) only [go_sem, Nat.reduceEqDiff, Nat.reduceAdd, ↓reduceIte, get_pushB, get_putB, pickB_t, pickB_f, eqB_t, eqB_f, ltB_t, leB_t, AH.size_push, AH.size_put, AH.ro_push, AH.ro_put, f16]
      refine Split.mk (fun h3 => ?_) (fun h3 => ?_)
      · simp (disch := omega) only [go_sem, Nat.reduceEqDiff, Nat.reduceAdd, ↓reduceIte, get_pushB, get_putB, pickB_t, pickB_f, eqB_t, eqB_f, ltB_t, leB_t, AH.size_push, AH.size_put, AH.ro_push, AH.ro_put, f8]
        have hw : IntKind.u8.wrap ((x / 65536 / 256 : Nat) : Int) = ((x / 65536 / 256 : Nat) : Int) := by rw [IntKind.wrap_u8']; omega
        rw [hw, ix8 _ _ (by omega)]
        · rw [Int.toNat_natCast]
          have hl : Sort.bitsLen (x / 65536 / 256) ≤ 8 := bitLen_le8 _ (by omega)
          have g0 : Sort.bitsLen (x) = 16 + Sort.bitsLen (x / 65536) := bitLen_shift (x) 16 (by show ¬ x / 65536 = 0; omega)
          have g1 : Sort.bitsLen (x / 65536) = 8 + Sort.bitsLen (x / 65536 / 256) := bitLen_shift (x / 65536) 8 (by show ¬ x / 65536 / 256 = 0; omega)
          simp (disch := omega) only [go_sem, Nat.reduceEqDiff, Nat.reduceAdd, ↓reduceIte, get_pushB, get_putB, pickB_t, pickB_f, eqB_t, eqB_f, ltB_t, leB_t, AH.size_push, AH.size_put, AH.ro_push, AH.ro_put]
          exact ⟨congrArg _ (by omega), by trivial⟩
        · kernel_rfl
      · simp (disch := omega) only [go_sem, Nat.reduceEqDiff, Nat.reduceAdd, ↓reduceIte, get_pushB, get_putB, pickB_t, pickB_f, eqB_t, eqB_f, ltB_t, leB_t, AH.size_push, AH.size_put, AH.ro_push, AH.ro_put]
        have hw : IntKind.u8.wrap ((x / 65536 : Nat) : Int) = ((x / 65536 : Nat) : Int) := by rw [IntKind.wrap_u8']; omega
        rw [hw, ix8 _ _ (by omega)]
        · rw [Int.toNat_natCast]
          have hl : Sort.bitsLen (x / 65536) ≤ 8 := bitLen_le8 _ (by omega)
          have g0 : Sort.bitsLen (x) = 16 + Sort.bitsLen (x / 65536) := bitLen_shift (x) 16 (by show ¬ x / 65536 = 0; omega)
          simp (disch := omega) only [go_sem, Nat.reduceEqDiff, Nat.reduceAdd, ↓reduceIte, get_pushB, get_putB, pickB_t, pickB_f, eqB_t, eqB_f, ltB_t, leB_t, AH.size_push, AH.size_put, AH.ro_push, AH.ro_put]
          exact ⟨congrArg _ (by omega), by trivial⟩
        · kernel_rfl
    · simp (disch := omega) only [go_sem, Nat.reduceEqDiff, Nat.reduceAdd, ↓reduceIte, get_pushB, get_putB, pickB_t, pickB_f, eqB_t, eqB_f, ltB_t, leB_t, AH.size_push, AH.size_put, AH.ro_push, AH.ro_put]
      refine Split.mk (fun h3 => ?_) (fun h3 => ?_)
      · simp (disch := omega) only [go_sem, Nat.reduceEqDiff, Nat.reduceAdd, ↓reduceIte, get_pushB, get_putB, pickB_t, pickB_f, eqB_t, eqB_f, ltB_t, leB_t, AH.size_push, AH.size_put, AH.ro_push, AH.ro_put, f8]
        have hw : IntKind.u8.wrap ((x / 256 : Nat) : Int) = ((x / 256 : Nat) : Int) := by rw [IntKind.wrap_u8']; omega
        rw [hw, ix8 _ _ (by omega)]
        · rw [Int.toNat_natCast]
          have hl : Sort.bitsLen (x / 256) ≤ 8 := bitLen_le8 _ (by omega)
          have g0 : Sort.bitsLen (x) = 8 + Sort.bitsLen (x / 256) := bitLen_shift (x) 8 (by show ¬ x / 256 = 0; omega)
          simp (disch := omega) only [go_sem, Nat.reduceEqDiff, Nat.reduceAdd, ↓reduceIte, get_pushB, get_putB, pickB_t, pickB_f, eqB_t, eqB_f, ltB_t, leB_t, AH.size_push, AH.size_put, AH.ro_push, AH.ro_put]
          exact ⟨congrArg _ (by omega), by trivial⟩
        · kernel_rfl
      · simp (disch := omega) only [go_sem, Nat.reduceEqDiff, Nat.reduceAdd, ↓reduceIte, get_pushB, get_putB, pickB_t, pickB_f, eqB_t, eqB_f, ltB_t, leB_t, AH.size_push, AH.size_put, AH.ro_push, AH.ro_put]
        have hw : IntKind.u8.wrap ((x : Nat) : Int) = ((x : Nat) : Int) := by rw [IntKind.wrap_u8']; omega
        rw [hw, ix8 _ _ (by omega)]
        · rw [Int.toNat_natCast]
          have hl : Sort.bitsLen (x) ≤ 8 := bitLen_le8 _ (by omega)
          simp (disch := omega) only [go_sem, Nat.reduceEqDiff, Nat.reduceAdd, ↓reduceIte, get_pushB, get_putB, pickB_t, pickB_f, eqB_t, eqB_f, ltB_t, leB_t, AH.size_push, AH.size_put, AH.ro_push, AH.ro_put]
          exact ⟨congrArg _ (by omega), by trivial⟩
        · kernel_rfl
theorem Len_ok (H : AH) (x : Nat) (hx : x < 18446744073709551616) : Runs tb 38 [.int .u64 x] H (fun r H' => r = .int .i64 (Sort.bitsLen x) ∧ H' = H) := by
  refine Runs_fn (fn := Try.f38) [.tmp 2] [0, 2] [] 3000 (by kernel_rfl) rfl (by kernel_rfl) (by kernel_rfl) rfl ?_; simp only [pad, argAt]
  simp (disch := omega) only [go_sem, Nat.reduceEqDiff, Nat.reduceAdd, ↓reduceIte, get_pushB, get_putB, pickB_t, pickB_f, eqB_t, eqB_f, ltB_t, leB_t, AH.size_push, AH.size_put, AH.ro_push, AH.ro_put]
  refine callW_of (Len64_ok H x hx) ?_
  rintro r G ⟨rfl, rfl⟩
  simp (disch := omega) only [go_sem, Nat.reduceEqDiff, Nat.reduceAdd, ↓reduceIte, get_pushB, get_putB, pickB_t, pickB_f, eqB_t, eqB_f, ltB_t, leB_t, AH.size_push, AH.size_put, AH.ro_push, AH.ro_put]
theorem nextPow_ok (H : AH) (l : Nat) (hl : l ≤ 1000000000) : Runs tb 51 [.int .i64 l] H (fun r H' => r = .int .u64 ((1 <<< Sort.bitsLen l : Nat) : Int) ∧ H' = H) := by
  have hb : Sort.bitsLen l ≤ 30 := (Sort.bitsLen_le_iff l 30).2 (by omega)
  have hp : 2 ^ Sort.bitsLen l ≤ 2 ^ 30 := Nat.pow_le_pow_right (by omega) hb
  have hw : IntKind.u64.wrap (l : Int) = (l : Int) := by rw [IntKind.wrap_u64]; omega
  have hs : ∀ t, abin tb .shl t (.int .u64 1) (.int .i64 (Sort.bitsLen l : Nat)) = some (.int .u64 ((1 <<< Sort.bitsLen l : Nat) : Int)) := fun t => by
    have h := shl_u t 1 (Sort.bitsLen l) (by omega) .i64
    rw [Nat.mod_eq_of_lt (by omega)] at h
    rw [Nat.shiftLeft_eq]
    exact h
  refine Runs_fn (fn := Try.f51) [.tmp 2] [0, 2] [] 3000 (by kernel_rfl) rfl (by kernel_rfl) (by kernel_rfl) rfl ?_; simp only [pad, argAt]
  simp (disch := omega) only [go_sem, Nat.reduceEqDiff, Nat.reduceAdd, ↓reduceIte, get_pushB, get_putB, pickB_t, pickB_f, eqB_t, eqB_f, ltB_t, leB_t, AH.size_push, AH.size_put, AH.ro_push, AH.ro_put, hw]
  refine callW_of (Len_ok H l (by omega)) ?_
  rintro r G ⟨rfl, rfl⟩
  simp (disch := omega) only [go_sem, Nat.reduceEqDiff, Nat.reduceAdd, ↓reduceIte, get_pushB, get_putB, pickB_t, pickB_f, eqB_t, eqB_f, ltB_t, leB_t, AH.size_push, AH.size_put, AH.ro_push, AH.ro_put, hs]
theorem frNew {b s : Nat} {H K K' : AH} (h : Fr b H K) (k : Fr s K K') (hs : H.size ≤ s) : Fr b H K' := ⟨Nat.le_trans h.size k.size, k.ro.trans h.ro, fun c x hc e => k.get c x (by have := AH.lt_of_get e; omega) (h.get c x hc e)⟩
def bpS (a L M i0 : Nat) (st : UInt64 × Array Sp) : Nat → UInt64 × Array Sp
  | 0 => st
  | t + 1 => Sort.breakStep a L M (bpS a L M i0 st t) (i0 + t)
theorem bpS_size (a L M i0 : Nat) (st : UInt64 × Array Sp) (t : Nat) : (bpS a L M i0 st t).2.size = st.2.size := by
  induction t with
  | zero => rfl
  | succ t ih => simp only [bpS, Sort.breakStep, swp_size, ih]
theorem break_ok (H : AH) (bx : Nat) (d : Array Sp) (a b : Nat) (h : SpAt H bx d) (hr0 : H.ro ≤ H.size) (hab : a + 12 < b) (hb : b ≤ d.size) :
    Runs tb 42 [SV bx d, .int .i64 a, .int .i64 b, cmpV] H (fun r H' => r = .tuple #[] ∧ SpAt H' bx (Sort.breakPatterns d a b) ∧ Fr bx H H') := by
  have hbd := h.bd
  have hbx := AH.lt_of_get h.get
  have el : (b : Int) - a = ((b - a : Nat) : Int) := by omega
  obtain ⟨l, hl⟩ : ∃ l, l = b - a := ⟨_, rfl⟩
  rw [← hl] at el
  have q4 := quo4 l (by omega)
  obtain ⟨M, hM⟩ : ∃ M : Nat, M = 1 <<< Sort.bitsLen l := ⟨_, rfl⟩
  have hM1 : M ≤ 2 * l := by rw [hM, Nat.shiftLeft_eq, Nat.one_mul]; exact Sort.two_pow_bitsLen_le (by omega)
  have hM2 : l < M := by rw [hM, Nat.shiftLeft_eq, Nat.one_mul]; exact Sort.lt_two_pow_bitsLen l
  obtain ⟨i0, hi0⟩ : ∃ i0 : Nat, i0 = a + l / 4 * 2 - 1 := ⟨_, rfl⟩
  have ei : (a : Int) + ((l / 4 : Nat) : Int) * 2 - 1 = (i0 : Int) := by omega
  have ei2 : (a : Int) + ((l / 4 : Nat) : Int) * 2 + 1 = ((i0 + 2 : Nat) : Int) := by omega
  have eM : (M : Int) - 1 = ((M - 1 : Nat) : Int) := by omega
  have hw : IntKind.u64.wrap (l : Int) = (l : Int) := by rw [IntKind.wrap_u64]; omega
  have hfin : Sort.breakPatterns d a b = (bpS a l M i0 (UInt64.ofNat l, d) 3).2 := by
    unfold Sort.breakPatterns
    simp only [← hl, ← hM, ← hi0]
    rw [if_pos (by omega)]
    rfl
  unfold SV
  refine Runs_fn (fn := Try.f42) [] [0, 1, 2, 3, 8, 9, 10, 11, 12] [] 3000 (by kernel_rfl) rfl (by kernel_rfl) (by kernel_rfl) rfl ?_; simp only [pad, argAt]
  simp (disch := omega) only [go_sem, Nat.reduceEqDiff, Nat.reduceAdd, ↓reduceIte, get_pushB, get_putB, pickB_t, pickB_f, eqB_t, eqB_f, ltB_t, leB_t, AH.size_push, AH.size_put, AH.ro_push, AH.ro_put, el, q4, hw]
  refine callW_of (nextPow_ok _ l (by omega)) ?_
  rintro r G ⟨rfl, rfl⟩
  simp (disch := omega) only [go_sem, Nat.reduceEqDiff, Nat.reduceAdd, ↓reduceIte, get_pushB, get_putB, pickB_t, pickB_f, eqB_t, eqB_f, ltB_t, leB_t, AH.size_push, AH.size_put, AH.ro_push, AH.ro_put, el, q4, ei]
  refine ⟨by decide, ?_⟩
  rw [← hM]
  have hsG : ((H.push [Value.int IntKind.u64 0]).put H.size (some [Value.int IntKind.u64 ↑l])).get H.size = some [.int .u64 ((UInt64.ofNat l).toNat : Nat)] := by
    rw [AH.get_put _ _ _ _ (by simp only [AH.size_push]; omega), if_pos rfl, UInt64.toNat_ofNat', Nat.mod_eq_of_lt (by omega)]
  have hE : Ext H ((H.push [Value.int IntKind.u64 0]).put H.size (some [Value.int IntKind.u64 ↑l])) := (Fr.put H.size _ (by simp only [AH.size_push]; omega) _).ext (Ext.push H _) (Nat.le_refl _)
  generalize ((H.push [Value.int IntKind.u64 0]).put H.size (some [Value.int IntKind.u64 ↑l])) = G at *
  have hne : H.size ≠ bx := by omega
  refine Sat_loop 3000 (fun k K V => ∃ (t : Nat) (x12 : Value), t ≤ 3 ∧ k = 3 - t ∧ SpAt K bx (bpS a l M i0 (UInt64.ofNat l, d) t).2 ∧ K.get H.size = some [.int .u64 ((bpS a l M i0 (UInt64.ofNat l, d) t).1.toNat : Nat)] ∧ Fr bx H K ∧ V = [.slice (some ⟨bx, 0, none⟩) d.size 2, .int .i64 a, .int .i64 b, cmpV, .int .i64 l, .pointer (some ⟨H.size, 0, none⟩), .int .u64 M, .int .i64 ((i0 + t : Nat) : Int), x12]) 3 ?_ ?_
  · exact ⟨0, _, by omega, rfl, h.ext hE, hsG, Fr.of_ext bx hE, rfl⟩
  rintro k K V ⟨t, x12, ht, rfl, he, hs, hF, rfl⟩ ih
  have hes := bpS_size a l M i0 (UInt64.ofNat l, d) t
  obtain ⟨S, hS⟩ : ∃ S, S = bpS a l M i0 (UInt64.ofNat l, d) t := ⟨_, rfl⟩
  rw [← hS] at he hs hes
  simp (disch := omega) only [go_sem, Nat.reduceEqDiff, Nat.reduceAdd, ↓reduceIte, get_pushB, get_putB, pickB_t, pickB_f, eqB_t, eqB_f, ltB_t, leB_t, AH.size_push, AH.size_put, AH.ro_push, AH.ro_put, q4, ei2]
  refine ⟨by decide, Split.mk (fun h1 => ?_) (fun h1 => ?_)⟩
  · have hx : S.1.toNat < 18446744073709551616 := S.1.toNat_lt
    simp (disch := omega) only [go_sem, Nat.reduceEqDiff, Nat.reduceAdd, ↓reduceIte, get_pushB, get_putB, pickB_t, pickB_f, eqB_t, eqB_f, ltB_t, leB_t, AH.size_push, AH.size_put, AH.ro_push, AH.ro_put]
    refine callW_of (Next_ok K H.size _ hx hs (by have := hF.ro; omega)) ?_
    rintro r K2 ⟨rfl, hs2, hF2⟩
    have hlt := Sort.xorNextN_lt _ hx
    rw [← Sort.xorNext_toNat] at hs2 hlt
    rw [← Sort.xorNext_toNat]
    obtain ⟨O, hO⟩ : ∃ O, O = (Sort.xorNext S.1).toNat &&& (M - 1) := ⟨_, rfl⟩
    have hO1 : O ≤ M - 1 := by rw [hO]; exact Nat.and_le_right
    have eA : ∀ t, abin tb .and t (.int .u64 ((Sort.xorNext S.1).toNat : Int)) (.int .u64 ((M - 1 : Nat) : Int)) = some (.int .u64 (O : Int)) := fun t => by rw [hO]; exact and_u t _ _ hlt (by omega)
    have he2 := he.fr hF2 hne
    have hFK := frNew hF hF2 (Nat.le_refl _)
    have hwO : IntKind.i64.wrap (O : Int) = (O : Int) := IntWalk.i64_in _ (by omega)
    have hwM : IntKind.u64.wrap ((M - 1 : Nat) : Int) = ((M - 1 : Nat) : Int) := by rw [IntKind.wrap_u64]; omega
    have hes' : S.2.size = d.size := hes
    simp (disch := omega) only [go_sem, Nat.reduceEqDiff, Nat.reduceAdd, ↓reduceIte, get_pushB, get_putB, pickB_t, pickB_f, eqB_t, eqB_f, ltB_t, leB_t, AH.size_push, AH.size_put, AH.ro_push, AH.ro_put, eM, hwM, eA, hwO]
    refine Split.mk (fun h2 => ?_) (fun h2 => ?_)
    · have eo : (O : Int) - (l : Int) = ((O - l : Nat) : Int) := by omega
      have ea : (a : Int) + ((O - l : Nat) : Int) = ((a + (O - l) : Nat) : Int) := by omega
      simp (disch := omega) only [go_sem, Nat.reduceEqDiff, Nat.reduceAdd, ↓reduceIte, get_pushB, get_putB, pickB_t, pickB_f, eqB_t, eqB_f, ltB_t, leB_t, AH.size_push, AH.size_put, AH.ro_push, AH.ro_put, eo]
      have hst : bpS a l M i0 (UInt64.ofNat l, d) (t + 1) = (Sort.xorNext S.1, Sort.swp S.2 (i0 + t) (a + (O - l))) := by
        show Sort.breakStep a l M (bpS a l M i0 (UInt64.ofNat l, d) t) (i0 + t) = _
        rw [← hS]
        simp only [Sort.breakStep, ← hO]
        rw [if_pos (by omega)]
      have y1 := sp_ix bx d.size ((i0 + t : Nat) : Int) (by omega) .i64
      have y2 := sp_ix bx d.size ((a + (O - l) : Nat) : Int) (by omega) .i64
      have z1 := sp_ld he2 ((i0 + t : Nat) : Int) (by omega)
      have z2 := sp_ld he2 ((a + (O - l) : Nat) : Int) (by omega)
      simp only [Int.toNat_natCast] at z1 z2
      obtain ⟨s1, s2, he9, hF9⟩ := sp_swap he2 (i0 + t) (a + (O - l)) (by omega) (by omega)
      simp (disch := omega) only [go_sem, Nat.reduceEqDiff, Nat.reduceAdd, ↓reduceIte, get_pushB, get_putB, pickB_t, pickB_f, eqB_t, eqB_f, ltB_t, leB_t, AH.size_push, AH.size_put, AH.ro_push, AH.ro_put, ea, y1, y2, z1, z2, s1, s2]
      refine ih _ _ _ ?_ ⟨t + 1, _, by omega, rfl, by rw [hst]; exact he9, by rw [hst]; exact hF9.get _ _ hne hs2, hFK.trans hF9, by simp only [Int.natCast_add]; rfl⟩
      omega
    · have ea : (a : Int) + ((O : Nat) : Int) = ((a + O : Nat) : Int) := by omega
      have hst : bpS a l M i0 (UInt64.ofNat l, d) (t + 1) = (Sort.xorNext S.1, Sort.swp S.2 (i0 + t) (a + O)) := by
        show Sort.breakStep a l M (bpS a l M i0 (UInt64.ofNat l, d) t) (i0 + t) = _
        rw [← hS]
        simp only [Sort.breakStep, ← hO]
        rw [if_neg (by omega)]
      have y1 := sp_ix bx d.size ((i0 + t : Nat) : Int) (by omega) .i64
      have y2 := sp_ix bx d.size ((a + O : Nat) : Int) (by omega) .i64
      have z1 := sp_ld he2 ((i0 + t : Nat) : Int) (by omega)
      have z2 := sp_ld he2 ((a + O : Nat) : Int) (by omega)
      simp only [Int.toNat_natCast] at z1 z2
      obtain ⟨s1, s2, he9, hF9⟩ := sp_swap he2 (i0 + t) (a + O) (by omega) (by omega)
      simp (disch := omega) only [go_sem, Nat.reduceEqDiff, Nat.reduceAdd, ↓reduceIte, get_pushB, get_putB, pickB_t, pickB_f, eqB_t, eqB_f, ltB_t, leB_t, AH.size_push, AH.size_put, AH.ro_push, AH.ro_put, ea, y1, y2, z1, z2, s1, s2]
      refine ih _ _ _ ?_ ⟨t + 1, _, by omega, rfl, by rw [hst]; exact he9, by rw [hst]; exact hF9.get _ _ hne hs2, hFK.trans hF9, by simp only [Int.natCast_add]; rfl⟩
      omega
  · obtain rfl : t = 3 := by omega
    simp (disch := omega) only [go_sem, Nat.reduceEqDiff, Nat.reduceAdd, ↓reduceIte, get_pushB, get_putB, pickB_t, pickB_f, eqB_t, eqB_f, ltB_t, leB_t, AH.size_push, AH.size_put, AH.ro_push, AH.ro_put]
    rw [hfin, ← hS]
    exact ⟨he, hF⟩
end Go.Proofs.A
