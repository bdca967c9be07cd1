/- Parts of a proof about this program: an abstract machine over the model's syntax, sound against the model. -/
import Derived.WalkKit
import Derived.Laws.StructEq
import Derived.Laws.Append
import Derived.LoopN
/- A small abstract heap: blocks of cells, numbered in the order in which they are made; a binary tree. -/
namespace Go.Ab

inductive Tr (α : Type) where
  | leaf
  | node (l : Tr α) (v : Option α) (r : Tr α)

def Tr.get {α : Type} : Nat → Tr α → Nat → Option α
  | 0, _, _ => none
  | _ + 1, .leaf, _ => none
  | f + 1, .node l v r, n => if n = 0 then v else if n % 2 = 1 then Tr.get f l (n / 2) else Tr.get f r (n / 2 - 1)

def Tr.set {α : Type} : Nat → Tr α → Nat → Option α → Tr α
  | 0, t, _, _ => t
  | f + 1, .leaf, n, x => if n = 0 then .node .leaf x .leaf else if n % 2 = 1 then .node (Tr.set f .leaf (n / 2) x) none .leaf else .node .leaf none (Tr.set f .leaf (n / 2 - 1) x)
  | f + 1, .node l v r, n, x => if n = 0 then .node l x r else if n % 2 = 1 then .node (Tr.set f l (n / 2) x) v r else .node l v (Tr.set f r (n / 2 - 1) x)

theorem Tr.get_leaf {α : Type} (f n : Nat) : Tr.get f (.leaf : Tr α) n = none := by cases f <;> rfl

theorem Tr.get_set {α : Type} (f : Nat) : ∀ (t : Tr α) (n m : Nat) (x : Option α), n < 2 ^ f - 1 → m < 2 ^ f - 1 → Tr.get f (Tr.set f t n x) m = if m = n then x else Tr.get f t m := by
  induction f with
  | zero => intro t n m x h; simp at h
  | succ f ih =>
    intro t n m x hn hm
    have hp : 2 ^ (f + 1) = 2 * 2 ^ f := by rw [Nat.pow_succ, Nat.mul_comm]
    have hpos : 0 < 2 ^ f := Nat.pow_pos (by omega)
    cases t with
    | leaf =>
      by_cases n0 : n = 0
      · subst n0
        by_cases m0 : m = 0
        · subst m0; simp [Tr.set, Tr.get]
        · simp [Tr.set, Tr.get, m0, Tr.get_leaf]
      · by_cases n1 : n % 2 = 1
        · by_cases m0 : m = 0
          · subst m0; simp [Tr.set, Tr.get, n0, n1]; omega
          · by_cases m1 : m % 2 = 1
            · have hb := ih .leaf (n / 2) (m / 2) x (by omega) (by omega)
              simp [Tr.set, Tr.get, n0, n1, m0, m1]
              rw [hb, Tr.get_leaf]
              by_cases h : m = n
              · simp [h]
              · rw [if_neg (by omega), if_neg h]
            · have : m ≠ n := by rintro rfl; exact m1 n1
              simp [Tr.set, Tr.get, n0, n1, m0, m1, this, Tr.get_leaf]
        · by_cases m0 : m = 0
          · subst m0; simp [Tr.set, Tr.get, n0, n1]; omega
          · by_cases m1 : m % 2 = 1
            · have : m ≠ n := by rintro rfl; exact n1 m1
              simp [Tr.set, Tr.get, n0, n1, m0, m1, this, Tr.get_leaf]
            · have hb := ih .leaf (n / 2 - 1) (m / 2 - 1) x (by omega) (by omega)
              simp [Tr.set, Tr.get, n0, n1, m0, m1]
              rw [hb, Tr.get_leaf]
              by_cases h : m = n
              · simp [h]
              · rw [if_neg (by omega), if_neg h]
    | node l v r =>
      by_cases n0 : n = 0
      · subst n0
        by_cases m0 : m = 0
        · subst m0; simp [Tr.set, Tr.get]
        · simp [Tr.set, Tr.get, m0]
      · by_cases n1 : n % 2 = 1
        · by_cases m0 : m = 0
          · subst m0; simp [Tr.set, Tr.get, n0, n1]; omega
          · by_cases m1 : m % 2 = 1
            · have hb := ih l (n / 2) (m / 2) x (by omega) (by omega)
              simp [Tr.set, Tr.get, n0, n1, m0, m1]
              rw [hb]
              by_cases h : m = n
              · simp [h]
              · rw [if_neg (by omega), if_neg h]
            · have : m ≠ n := by rintro rfl; exact m1 n1
              simp [Tr.set, Tr.get, n0, n1, m0, m1, this]
        · by_cases m0 : m = 0
          · subst m0; simp [Tr.set, Tr.get, n0, n1]; omega
          · by_cases m1 : m % 2 = 1
            · have : m ≠ n := by rintro rfl; exact n1 m1
              simp [Tr.set, Tr.get, n0, n1, m0, m1, this]
            · have hb := ih r (n / 2 - 1) (m / 2 - 1) x (by omega) (by omega)
              simp [Tr.set, Tr.get, n0, n1, m0, m1]
              rw [hb]
              by_cases h : m = n
              · simp [h]
              · rw [if_neg (by omega), if_neg h]

theorem Tr.get_fuel {α : Type} (f : Nat) : ∀ (g : Nat) (t : Tr α) (n : Nat), n < 2 ^ f - 1 → n < 2 ^ g - 1 → Tr.get f t n = Tr.get g t n := by
  induction f with
  | zero => intro g t n h; simp at h
  | succ f ih =>
    intro g t n hf hg
    cases g with
    | zero => simp at hg
    | succ g =>
      have hp : 2 ^ (f + 1) = 2 * 2 ^ f := by rw [Nat.pow_succ, Nat.mul_comm]
      have hq : 2 ^ (g + 1) = 2 * 2 ^ g := by rw [Nat.pow_succ, Nat.mul_comm]
      cases t with
      | leaf => rfl
      | node l v r =>
        simp only [Tr.get]
        by_cases n0 : n = 0
        · simp [n0]
        · by_cases n1 : n % 2 = 1
          · rw [if_neg n0, if_neg n0, if_pos n1, if_pos n1]; exact ih g l _ (by omega) (by omega)
          · rw [if_neg n0, if_neg n0, if_neg n1, if_neg n1]; exact ih g r _ (by omega) (by omega)
theorem Tr.set_fuel {α : Type} (f : Nat) : ∀ (g : Nat) (t : Tr α) (n : Nat) (x : Option α), n < 2 ^ f - 1 → n < 2 ^ g - 1 → Tr.set f t n x = Tr.set g t n x := by
  induction f with
  | zero => intro g t n x h; simp at h
  | succ f ih =>
    intro g t n x hf hg
    cases g with
    | zero => simp at hg
    | succ g =>
      have hp : 2 ^ (f + 1) = 2 * 2 ^ f := by rw [Nat.pow_succ, Nat.mul_comm]
      have hq : 2 ^ (g + 1) = 2 * 2 ^ g := by rw [Nat.pow_succ, Nat.mul_comm]
      by_cases n0 : n = 0
      · cases t <;> simp [Tr.set, n0]
      · by_cases n1 : n % 2 = 1
        · cases t <;> simp only [Tr.set, if_neg n0, if_pos n1] <;> rw [ih g _ _ x (by omega) (by omega)]
        · cases t <;> simp only [Tr.set, if_neg n0, if_neg n1] <;> rw [ih g _ _ x (by omega) (by omega)]
def Tr.at {α : Type} (t : Tr α) (n : Nat) : Option α := Tr.get (n + 1) t n
def Tr.lay {α : Type} (t : Tr α) (n : Nat) (x : Option α) : Tr α := Tr.set (n + 1) t n x
theorem lt_pow (n : Nat) : n < 2 ^ (n + 1) - 1 := by
  have h : n + 1 < 2 ^ (n + 1) := Nat.lt_two_pow_self
  omega
theorem Tr.at_lay {α : Type} (t : Tr α) (n m : Nat) (x : Option α) : (t.lay n x).at m = if m = n then x else t.at m := by
  have hn := lt_pow n
  have hm := lt_pow m
  have key : ∀ k, k ≤ max n m → k < 2 ^ (max n m + 1) - 1 := fun k hk => Nat.lt_of_le_of_lt hk (lt_pow _)
  unfold Tr.at Tr.lay
  rw [Tr.set_fuel (n + 1) (max n m + 1) t n x hn (key n (Nat.le_max_left _ _)), Tr.get_fuel (m + 1) (max n m + 1) _ m hm (key m (Nat.le_max_right _ _)),
    Tr.get_set _ t n m x (key n (Nat.le_max_left _ _)) (key m (Nat.le_max_right _ _)), Tr.get_fuel (m + 1) (max n m + 1) t m hm (key m (Nat.le_max_right _ _))]

/-- A block: its cells. -/
abbrev Blk := List Value

/-- The heap: how many blocks were made; the live ones; those below 'ro' are never written. -/
structure AH where
  size : Nat
  tree : Tr Blk
  ro : Nat

def AH.get (H : AH) (b : Nat) : Option Blk := if b < H.size then H.tree.at b else none
def AH.put (H : AH) (b : Nat) (x : Option Blk) : AH := ⟨H.size, H.tree.lay b x, H.ro⟩
def AH.push (H : AH) (x : Blk) : AH := ⟨H.size + 1, H.tree.lay H.size (some x), H.ro⟩
def AH.empty : AH := ⟨0, .leaf, 0⟩

theorem AH.get_ge {H : AH} {b : Nat} (h : H.size ≤ b) : H.get b = none := by simp [AH.get]; omega
theorem AH.lt_of_get {H : AH} {b : Nat} {x : Blk} (h : H.get b = some x) : b < H.size := by
  by_cases hb : b < H.size
  · exact hb
  · rw [AH.get_ge (by omega)] at h; cases h
@[simp] theorem AH.size_put (H : AH) (b : Nat) (x : Option Blk) : (H.put b x).size = H.size := rfl
@[simp] theorem AH.size_push (H : AH) (x : Blk) : (H.push x).size = H.size + 1 := rfl
@[simp] theorem AH.ro_put (H : AH) (b : Nat) (x : Option Blk) : (H.put b x).ro = H.ro := rfl
@[simp] theorem AH.ro_push (H : AH) (x : Blk) : (H.push x).ro = H.ro := rfl
theorem AH.get_put (H : AH) (b c : Nat) (x : Option Blk) (hb : b < H.size) : (H.put b x).get c = if c = b then x else H.get c := by
  unfold AH.get AH.put
  simp only [Tr.at_lay]
  by_cases hc : c < H.size
  · simp [hc]
  · have : c ≠ b := by omega
    simp [hc, this]
theorem AH.get_push (H : AH) (x : Blk) (c : Nat) : (H.push x).get c = if c = H.size then some x else H.get c := by
  unfold AH.get AH.push
  simp only [Tr.at_lay]
  by_cases hc : c < H.size + 1
  · by_cases h : c = H.size
    · simp [h]
    · rw [if_pos hc, if_neg h, if_neg h, if_pos (by omega)]
  · have : c ≠ H.size := by omega
    rw [if_neg hc, if_neg this, if_neg (by omega)]
end Go.Ab

/- What an abstract value, an abstract heap stand for in the model's world. -/
set_option linter.unusedVariables false
namespace Go.Ab

/-- Where an abstract block lies: the block, where in it it begins, how many cells there are from there. -/
structure Pl where
  B : Nat
  o : Nat
  cap : Nat
abbrev Phi := Nat → Option Pl
def Phi.le (φ ψ : Phi) : Prop := ∀ b p, φ b = some p → ψ b = some p
theorem Phi.le.refl (φ : Phi) : φ.le φ := fun _ _ h => h
theorem Phi.le.trans {φ ψ χ : Phi} (h : φ.le ψ) (k : ψ.le χ) : φ.le χ := fun b p e => k b p (h b p e)
def Phi.add (φ : Phi) (b : Nat) (p : Pl) : Phi := fun c => if c = b then some p else φ c

/-- Two addresses, or none. -/
inductive PRel (φ : Phi) : Value → Value → Prop
  | nilp : PRel φ (.pointer none) (.pointer none)
  | ptr {b off : Nat} {p : Pl} (h : φ b = some p) : PRel φ (.pointer (some ⟨b, off, none⟩)) (.pointer (some ⟨p.B, p.o + off, none⟩))

/-- Values of one cell. An abstract slice's third number is its element's cells. -/
inductive SRel (φ : Phi) : Value → Value → Prop
  | bool (b : Bool) : SRel φ (.bool b) (.bool b)
  | int (k : IntKind) (n : Int) : SRel φ (.int k n) (.int k n)
  | string (s : ByteArray) : SRel φ (.string s) (.string s)
  | ptr {v v' : Value} (h : PRel φ v v') : SRel φ v v'
  | snil : SRel φ (.slice none 0 0) (.slice none 0 0)
  | sl {b off len sz cap : Nat} {p : Pl} (h : φ b = some p) (hl : len ≤ cap) (hm : cap ≤ 9223372036854775807) (hz : 0 < sz) (hc : off + cap * sz = p.cap) :
      SRel φ (.slice (some ⟨b, off, none⟩) len sz) (.slice (some ⟨p.B, p.o + off, none⟩) len cap)
  | sl0 {b off sz : Nat} {p : Pl} (h : φ b = some p) (a : Addr) : SRel φ (.slice (some ⟨b, off, none⟩) 0 sz) (.slice (some a) 0 0)
  | sle (a : Addr) : SRel φ (.slice (some ⟨0, 0, some 0⟩) 0 0) (.slice (some a) 0 0)
  | nilFunc : SRel φ .nilFunc .nilFunc
  | nilIface : SRel φ .nilIface .nilIface
  | fn {f : FuncId} {cs cs' : Array Value} (hs : cs.size = cs'.size) (h : ∀ (i : Nat) (v : Value), cs[i]? = some v → ∃ v', cs'[i]? = some v' ∧ PRel φ v v') : SRel φ (.func (.func f) #[] cs) (.func (.func f) #[] cs')

/-- Rows of cells. -/
def CRel (φ : Phi) (xs ys : List Value) : Prop := xs.length = ys.length ∧ ∀ (i : Nat) (v : Value), xs[i]? = some v → ∃ v', ys[i]? = some v' ∧ SRel φ v v'

inductive ARel (φ : Phi) : Value → Value → Prop
  | sc {v v' : Value} (h : SRel φ v v') : ARel φ v v'
  | agg {cs cs' : Array Value} (h : CRel φ cs.toList cs'.toList) : ARel φ (.agg cs) (.agg cs')

inductive VRel (φ : Phi) : Value → Value → Prop
  | ar {v v' : Value} (h : ARel φ v v') : VRel φ v v'
  | tup {vs vs' : Array Value} (hs : vs.size = vs'.size) (h : ∀ (i : Nat) (v : Value), vs[i]? = some v → ∃ v', vs'[i]? = some v' ∧ ARel φ v v') : VRel φ (.tuple vs) (.tuple vs')

theorem PRel.mono {φ ψ : Phi} (hl : φ.le ψ) {v v' : Value} (h : PRel φ v v') : PRel ψ v v' := by
  cases h with
  | nilp => exact .nilp
  | ptr h => exact .ptr (hl _ _ h)
theorem SRel.mono {φ ψ : Phi} (hl : φ.le ψ) {v v' : Value} (h : SRel φ v v') : SRel ψ v v' := by
  cases h with
  | bool b => exact .bool b
  | int k n => exact .int k n
  | string s => exact .string s
  | ptr h => exact .ptr (h.mono hl)
  | snil => exact .snil
  | sl h h1 h2 h3 h4 => exact .sl (hl _ _ h) h1 h2 h3 h4
  | sl0 h a => exact .sl0 (hl _ _ h) a
  | sle a => exact .sle a
  | nilFunc => exact .nilFunc
  | nilIface => exact .nilIface
  | fn hs h => exact .fn hs fun i v e => let ⟨v', a, b⟩ := h i v e; ⟨v', a, b.mono hl⟩
theorem CRel.mono {φ ψ : Phi} (hl : φ.le ψ) {xs ys : List Value} (h : CRel φ xs ys) : CRel ψ xs ys :=
  ⟨h.1, fun i v e => let ⟨v', a, b⟩ := h.2 i v e; ⟨v', a, b.mono hl⟩⟩
theorem ARel.mono {φ ψ : Phi} (hl : φ.le ψ) {v v' : Value} (h : ARel φ v v') : ARel ψ v v' := by
  cases h with
  | sc h => exact .sc (h.mono hl)
  | agg h => exact .agg (h.mono hl)
theorem VRel.mono {φ ψ : Phi} (hl : φ.le ψ) {v v' : Value} (h : VRel φ v v') : VRel ψ v v' := by
  cases h with
  | ar h => exact .ar (h.mono hl)
  | tup hs h => exact .tup hs fun i v e => let ⟨v', a, b⟩ := h i v e; ⟨v', a, b.mono hl⟩

theorem CRel.nil (φ : Phi) : CRel φ [] [] := ⟨rfl, fun i v h => by simp at h⟩
theorem CRel.cons {φ : Phi} {x y : Value} {xs ys : List Value} (h : SRel φ x y) (t : CRel φ xs ys) : CRel φ (x :: xs) (y :: ys) := by
  refine ⟨by simp [t.1], fun i v e => ?_⟩
  cases i with
  | zero => simp at e; subst e; exact ⟨y, by simp, h⟩
  | succ i => simp at e ⊢; exact t.2 i v e
theorem CRel.uncons {φ : Phi} {x : Value} {xs ys : List Value} (h : CRel φ (x :: xs) ys) : ∃ y ys', ys = y :: ys' ∧ SRel φ x y ∧ CRel φ xs ys' := by
  cases ys with
  | nil => simp [CRel] at h
  | cons y ys =>
    refine ⟨y, ys, rfl, ?_, ?_, ?_⟩
    · obtain ⟨v', e, hs⟩ := h.2 0 x (by simp)
      simp at e; subst e; exact hs
    · have := h.1; simpa using this
    · intro i v e
      have := h.2 (i + 1) v (by simpa using e)
      simpa using this
theorem CRel.append {φ : Phi} {xs ys xs' ys' : List Value} (h : CRel φ xs ys) (t : CRel φ xs' ys') : CRel φ (xs ++ xs') (ys ++ ys') := by
  induction xs generalizing ys with
  | nil => have : ys = [] := by have := h.1; simp at this; exact List.eq_nil_of_length_eq_zero this.symm
           subst this; exact t
  | cons x xs ih => obtain ⟨y, ys2, rfl, h1, h2⟩ := h.uncons; exact CRel.cons h1 (ih h2)
theorem CRel.take {φ : Phi} {xs ys : List Value} (h : CRel φ xs ys) (n : Nat) : CRel φ (xs.take n) (ys.take n) := by
  refine ⟨by simp [h.1], fun i v e => ?_⟩
  simp only [List.getElem?_take] at e ⊢
  split at e
  · rename_i hi; simp only [hi, if_true]; exact h.2 i v e
  · cases e
theorem CRel.drop {φ : Phi} {xs ys : List Value} (h : CRel φ xs ys) (n : Nat) : CRel φ (xs.drop n) (ys.drop n) := by
  refine ⟨by simp [h.1], fun i v e => ?_⟩
  simp only [List.getElem?_drop] at e ⊢
  exact h.2 _ v e

/-- One cell's value is no row of cells. -/
theorem SRel.cells {φ : Phi} {v v' : Value} (h : SRel φ v v') : v.cells = #[v] ∧ v'.cells = #[v'] := by
  cases h with
  | ptr h => cases h <;> exact ⟨rfl, rfl⟩
  | _ => exact ⟨rfl, rfl⟩
theorem SRel.oneCell {φ : Phi} {v v' : Value} (h : SRel φ v v') : v'.oneCell' = true := by
  cases h with
  | ptr h => cases h <;> rfl
  | _ => rfl
theorem ARel.cells {φ : Phi} {v v' : Value} (h : ARel φ v v') : CRel φ v.cells.toList v'.cells.toList := by
  cases h with
  | sc h => obtain ⟨e1, e2⟩ := h.cells; rw [e1, e2]; exact CRel.cons h (CRel.nil φ)
  | agg h => exact h

/-- Values without an address in them: the constants of the code, zero values. -/
def closedS : Value → Bool
  | .bool _ | .int _ _ | .string _ | .pointer none | .slice none 0 0 | .nilFunc | .nilIface => true
  | _ => false
def closedA : Value → Bool
  | .agg cs => cs.all closedS
  | v => closedS v
theorem SRel.closed (φ : Phi) {v : Value} (h : closedS v = true) : SRel φ v v := by
  unfold closedS at h
  split at h
  · exact .bool _
  · exact .int _ _
  · exact .string _
  · exact .ptr .nilp
  · exact .snil
  · exact .nilFunc
  · exact .nilIface
  · cases h
theorem ARel.closed (φ : Phi) {v : Value} (h : closedA v = true) : ARel φ v v := by
  unfold closedA at h
  split at h
  · refine .agg ⟨rfl, fun i v e => ⟨v, e, SRel.closed φ ?_⟩⟩
    rename_i cs
    have := List.mem_of_getElem? e
    rw [Array.all_eq_true'] at h
    exact h v (by simpa using this)
  · exact .sc (SRel.closed φ h)

/-! ### The world -/

structure Kept (prot : Nat → Prop) (w w' : World) : Prop where
  os : w'.os = w.os
  tape : w'.tape = w.tape
  output : w'.output = w.output
  size : w.heap.size ≤ w'.heap.size
  block : ∀ k, prot k → w'.heap[k]? = w.heap[k]?
theorem Kept.refl (prot : Nat → Prop) (w : World) : Kept prot w w := ⟨rfl, rfl, rfl, Nat.le_refl _, fun _ _ => rfl⟩
theorem Kept.trans {prot : Nat → Prop} {a b c : World} (h : Kept prot a b) (k : Kept prot b c) : Kept prot a c :=
  ⟨k.os.trans h.os, k.tape.trans h.tape, k.output.trans h.output, Nat.le_trans h.size k.size, fun i hi => (k.block i hi).trans (h.block i hi)⟩

/-- A heap, in part: which blocks are live; those below R are never written. -/
structure InvG (prot : Nat → Prop) (φ : Phi) (R : Nat) (G : Nat → Option Blk) (w : World) : Prop where
  low : ∀ b p, φ b = some p → p.B < w.heap.size
  live : ∀ b x, G b = some x → ∃ p, φ b = some p ∧ x.length ≤ p.cap ∧ ∀ (i : Nat) (v : Value), x[i]? = some v → ∃ v', w.cell? ⟨p.B, p.o + i, none⟩ = some v' ∧ SRel φ v v'
  own : ∀ b x p, G b = some x → R ≤ b → φ b = some p → ¬ prot p.B ∧ ∃ cur t, w.heap[p.B]? = some (.cells cur t (0, 0)) ∧ p.o + p.cap ≤ cur.size
  apart : ∀ b c x p q, G b = some x → R ≤ b → b ≠ c → (c < R ∨ G c ≠ none) → φ b = some p → φ c = some q → p.B ≠ q.B
  prot : ∀ k, prot k → k < w.heap.size
structure Inv (prot : Nat → Prop) (φ : Phi) (H : AH) (w : World) : Prop extends InvG prot φ H.ro H.get w where
  dom : ∀ b p, φ b = some p → b < H.size
  ro : H.ro ≤ H.size
  rom : ∀ c, c < H.ro → ∃ p, φ c = some p

theorem InvG.drew {pr : Nat → Prop} {φ : Phi} {R : Nat} {G : Nat → Option Blk} {w : World} (h : InvG pr φ R G w) : InvG pr φ R G { w with drawn := w.drawn + 1 } :=
  ⟨h.low, h.live, h.own, h.apart, h.prot⟩
theorem Inv.drew {pr : Nat → Prop} {φ : Phi} {H : AH} {w : World} (h : Inv pr φ H w) : Inv pr φ H { w with drawn := w.drawn + 1 } :=
  ⟨h.toInvG.drew, h.dom, h.ro, h.rom⟩
theorem Kept.drew (pr : Nat → Prop) (w : World) : Kept pr w { w with drawn := w.drawn + 1 } := ⟨rfl, rfl, rfl, Nat.le_refl _, fun _ _ => rfl⟩

end Go.Ab

/- The abstract machine's operations. -/
set_option linter.unusedVariables false
namespace Go.Ab

/-- A type: what it is underneath, its cells, its bytes, its zero value; may structs of it be compared? -/
structure TI where
  desc : TypeDesc
  size : Nat
  bytes : Nat
  zero : Value
  eqs : Bool := false
structure Tab where
  ty : Nat → Option TI
  fn : Nat → Option Func
  glob : Nat → Bool

structure Tab.Ok (T : Tab) (P : Program) : Prop where
  ty : ∀ t i, T.ty t = some i → P.underlying t = some i.desc ∧ ∃ inf, P.info? t = some inf ∧ inf.size = i.size ∧ inf.bytes = i.bytes ∧ inf.zero = some i.zero
  zero : ∀ t i, T.ty t = some i → closedA i.zero = true
  parts : ∀ t i fs, T.ty t = some i → i.desc = .struct fs → ∀ f ∈ fs.toList, ∃ k, T.ty f.type = some k
  eqs : ∀ t i, T.ty t = some i → i.eqs = true → P.stoodInHeld t = false ∧ P.eqGuardType P.depth t = false
  fn : ∀ f fn, T.fn f = some fn → P.funcs[f]? = some fn ∧ (fn.name == "runtime.NumGoroutine") = false
  mixed : P.follows .mixedOrders = true

def isAggD : TypeDesc → Bool
  | .struct _ | .array _ _ => true
  | _ => false

def aev (T : Tab) (a : Act) : Operand → Option Value
  | .tmp t => some (a.tmps.getD t undef)
  | .const v => if closedA v then some v else none
  | .func f => some (.func (.func f) #[] #[])
  | .global g => if T.glob g then some (.pointer (some ⟨g, 0, none⟩)) else none

/-! ### Arithmetic, comparisons -/
def aint (op : BinOp) (k : IntKind) (x y : Int) : Option Value :=
  match op with
  | .add => some (.int k (k.wrap (x + y)))
  | .sub => some (.int k (k.wrap (x - y)))
  | .mul => some (.int k (k.wrap (x * y)))
  | .quo => if y = 0 then none else some (.int k (k.wrap (x.tdiv y)))
  | .rem => if y = 0 then none else some (.int k (x.tmod y))
  | .and => some (.int k (k.wrap (BitVec.ofInt k.bits x &&& BitVec.ofInt k.bits y).toNat))
  | .or => some (.int k (k.wrap (BitVec.ofInt k.bits x ||| BitVec.ofInt k.bits y).toNat))
  | .xor => some (.int k (k.wrap (BitVec.ofInt k.bits x ^^^ BitVec.ofInt k.bits y).toNat))
  | .andNot => some (.int k (k.wrap (BitVec.ofInt k.bits x &&& ~~~BitVec.ofInt k.bits y).toNat))
  | .eql => some (.bool (x == y))
  | .neq => some (.bool (x != y))
  | .lss => some (.bool (x < y))
  | .leq => some (.bool (x ≤ y))
  | .gtr => some (.bool (x > y))
  | .geq => some (.bool (x ≥ y))
  | _ => none
def ashift (op : BinOp) (k : IntKind) (x y : Int) : Option Value :=
  if y < 0 then none else
  match op with
  | .shl => some (.int k (k.wrap (x * 2 ^ (min y.toNat k.bits))))
  | .shr => some (.int k (x.fdiv (2 ^ (min y.toNat k.bits))))
  | _ => none
def astr (op : BinOp) (x y : ByteArray) : Option Value :=
  match op with
  | .add => if ((x.size + y.size : Nat) : Int) ≤ 9223372036854775807 then some (.string (x ++ y)) else none
  | .eql => some (.bool (x.toList == y.toList))
  | .neq => some (.bool !(x.toList == y.toList))
  | .lss => some (.bool (Op.bytesLess x.toList y.toList))
  | .leq => some (.bool (Op.bytesLess x.toList y.toList || (x.toList == y.toList)))
  | .gtr => some (.bool !(Op.bytesLess x.toList y.toList || (x.toList == y.toList)))
  | .geq => some (.bool !(Op.bytesLess x.toList y.toList))
  | _ => none
/-- A part of a row of cells. -/
def apart (T : Tab) (t : TypeId) (cs : Array Value) (off : Nat) : Option Value :=
  match T.ty t with
  | none => none
  | some i => if isAggD i.desc then (if off + i.size ≤ cs.size then some (.agg (cs.extract off (off + i.size))) else none) else cs[off]?
mutual
def aeq (T : Tab) : Nat → TypeId → Value → Value → Option Bool
  | 0, _, _, _ => none
  | d + 1, t, x, y =>
    match T.ty t with
    | none => none
    | some i =>
      match i.desc, x, y with
      | .bool, .bool a, .bool b => some (a == b)
      | .int _, .int k a, .int k' b => if k = k' then some (a == b) else none
      | .string, .string a, .string b => some (a.toList == b.toList)
      | .pointer _, .pointer none, .pointer b => some b.isNone
      | .pointer _, .pointer (some _), .pointer none => some false
      | .slice _, .slice none _ _, .slice b _ _ => some b.isNone
      | .slice _, .slice (some _) _ _, .slice none _ _ => some false
      | .func _ _ _, .nilFunc, .nilFunc => some true
      | .func _ _ _, .nilFunc, .func _ _ _ => some false
      | .func _ _ _, .func _ _ _, .nilFunc => some false
      | .struct fields, .agg xs, .agg ys => if i.eqs then aeqs T d xs ys fields.toList else none
      | _, _, _ => none
def aeqs (T : Tab) : Nat → Array Value → Array Value → List Field → Option Bool
  | 0, _, _, _ => none
  | _ + 1, _, _, [] => some true
  | d + 1, xs, ys, f :: fs =>
    if f.name ≠ "_" then
      match apart T f.type xs f.offset, apart T f.type ys f.offset with
      | some x, some y => match aeq T d f.type x y with
        | some true => aeqs T d xs ys fs
        | some false => some false
        | none => none
      | _, _ => none
    else aeqs T d xs ys fs
end
def abin (T : Tab) (op : BinOp) (t : TypeId) (x y : Value) : Option Value :=
  match op, x, y with
  | .shl, .int k a, .int _ b => ashift .shl k a b
  | .shr, .int k a, .int _ b => ashift .shr k a b
  | op, .int k a, .int k' b => if k = k' then aint op k a b else none
  | op, .string a, .string b => astr op a b
  | .eql, x, y => (aeq T 60 t x y).map fun b => .bool b
  | .neq, x, y => (aeq T 60 t x y).map fun b => .bool (!b)
  | _, _, _ => none
def aun (op : UnOp) (x : Value) : Option Value :=
  match op, x with
  | .neg, .int k n => some (.int k (k.wrap (0 - n)))
  | .not, .bool b => some (.bool !b)
  | _, _ => none

/-! ### Structs, addresses, slices -/
/-- A struct's parts laid over its zero value; a slice literal's, too. -/
def afill (place : Nat → Option (Nat × Nat)) (cells : Array Value) : List (Nat × Value) → Option (Array Value) := Instr.fill place cells
def abuild (T : Tab) (t : TypeId) (parts : List (Nat × Value)) : Option Value :=
  match T.ty t with
  | none => none
  | some i => match i.desc with
    | .struct fields =>
      (Instr.fill (fun j => match fields[j]? with | some f => (match T.ty f.type with | some k => some (f.offset, k.size) | none => none) | none => none) i.zero.cells parts).map .agg
    | _ => none
def aindex (T : Tab) (t : TypeId) (x ix : Value) : Option Value :=
  match T.ty t, x, ix with
  | some { desc := .slice e, .. }, .slice (some ⟨b, off, none⟩) len sz, .int _ i =>
    match T.ty e with
    | some k => if k.size = sz ∧ 0 ≤ i ∧ i < len then some (.pointer (some ⟨b, off + i.toNat * sz, none⟩)) else none
    | none => none
  | some { desc := .array n e, .. }, .pointer (some ⟨b, off, none⟩), .int _ i =>
    match T.ty e with
    | some k => if 0 ≤ i ∧ i < n then some (.pointer (some ⟨b, off + i.toNat * k.size, none⟩)) else none
    | none => none
  | _, _, _ => none
def afield (T : Tab) (t : TypeId) (x : Value) (f : Nat) : Option Value :=
  match T.ty t, x with
  | some { desc := .struct fields, .. }, .pointer (some ⟨b, off, none⟩) =>
    match fields[f]? with
    | some f => match T.ty f.type with
      | some k => if k.size = 0 then none else some (.pointer (some ⟨b, off + f.offset, none⟩))
      | none => none
    | none => none
  | _, _ => none
def apick (T : Tab) (t : TypeId) (x : Value) (f : Nat) : Option Value :=
  match T.ty t, x with
  | some { desc := .struct fields, .. }, .agg cs => match fields[f]? with
    | some f => apart T f.type cs f.offset
    | none => none
  | _, _ => none
/-- A bound: whole, from 0 to n. -/
def abound (n : Nat) : Option Value → Nat → Option Nat
  | none, d => some d
  | some (.int _ i), _ => if 0 ≤ i ∧ i ≤ n then some i.toNat else none
  | some _, _ => none
def aslice (T : Tab) (t : TypeId) (x : Value) (lo hi : Option Value) : Option Value :=
  match T.ty t, x with
  | some { desc := .string, .. }, .string s =>
    match abound s.size hi s.size with
    | none => none
    | some h => match abound h lo 0 with
      | none => none
      | some l => some (.string (s.extract l h))
  | some { desc := .slice e, .. }, .slice none 0 0 =>
    match T.ty e with
    | none => none
    | some _ => match abound 0 hi 0 with
      | none => none
      | some h => match abound h lo 0 with
        | none => none
        | some _ => some (.slice none 0 0)
  | some { desc := .slice e, .. }, .slice (some ⟨0, 0, some 0⟩) 0 0 =>
    match T.ty e with
    | none => none
    | some _ => match abound 0 hi 0 with
      | none => none
      | some h => match abound h lo 0 with
        | none => none
        | some _ => some (.slice (some ⟨0, 0, some 0⟩) 0 0)
  | some { desc := .slice e, .. }, .slice (some ⟨b, off, none⟩) len sz =>
    match T.ty e with
    | none => none
    | some k => if k.size = sz then
        match abound len hi len with
        | none => none
        | some h => match abound h lo 0 with
          | none => none
          | some l => some (.slice (some ⟨b, off + l * sz, none⟩) (h - l) sz)
      else none
  | _, _ => none
def aconvert (T : Tab) (src dst : TypeId) (x : Value) : Option Value :=
  match T.ty src, T.ty dst, x with
  | some _, some { desc := .int k, .. }, .int _ n => some (.int k (k.wrap n))
  | some _, some { desc := .string, .. }, .string s => some (.string s)
  | _, _, _ => none
def aextract (x : Value) (i : Nat) : Option Value :=
  match x with
  | .tuple vs => vs[i]?
  | _ => none
def alen (x : Value) : Option Value :=
  match x with
  | .string s => some (goInt s.size)
  | .slice _ n _ => some (goInt n)
  | _ => none
def amax (mx : Bool) : Value → List Value → Option Value
  | v, [] => some v
  | .int k x, .int k' y :: rest => amax mx (.int k (if mx then (if y > x then y else x) else (if y < x then y else x))) rest
  | _, _ => none
end Go.Ab

/- The pure operations: what the abstract ones answer, the model's answer. -/
set_option linter.unusedVariables false
namespace Go.Ab

theorem VRel.sc {φ : Phi} {v v' : Value} (h : SRel φ v v') : VRel φ v v' := .ar (.sc h)
theorem VRel.int_inv {φ : Phi} {k : IntKind} {n : Int} {x : Value} (h : VRel φ (.int k n) x) : x = .int k n := by
  cases h with
  | ar h => cases h with
    | sc h => cases h with
      | int => rfl
      | ptr h => cases h
theorem VRel.bool_inv {φ : Phi} {b : Bool} {x : Value} (h : VRel φ (.bool b) x) : x = .bool b := by
  cases h with
  | ar h => cases h with
    | sc h => cases h with
      | bool => rfl
      | ptr h => cases h
theorem VRel.string_inv {φ : Phi} {s : ByteArray} {x : Value} (h : VRel φ (.string s) x) : x = .string s := by
  cases h with
  | ar h => cases h with
    | sc h => cases h with
      | string => rfl
      | ptr h => cases h
theorem SRel.int_inv {φ : Phi} {k : IntKind} {n : Int} {x : Value} (h : SRel φ (.int k n) x) : x = .int k n := VRel.int_inv (.sc h)
theorem SRel.bool_inv {φ : Phi} {b : Bool} {x : Value} (h : SRel φ (.bool b) x) : x = .bool b := VRel.bool_inv (.sc h)
theorem SRel.string_inv {φ : Phi} {s : ByteArray} {x : Value} (h : SRel φ (.string s) x) : x = .string s := VRel.string_inv (.sc h)
theorem VRel.agg_inv {φ : Phi} {cs : Array Value} {x : Value} (h : VRel φ (.agg cs) x) : ∃ cs', x = .agg cs' ∧ CRel φ cs.toList cs'.toList := by
  cases h with
  | ar h => cases h with
    | sc h => cases h with
      | ptr h => cases h
    | agg h => exact ⟨_, rfl, h⟩
theorem ARel.agg_inv {φ : Phi} {cs : Array Value} {x : Value} (h : ARel φ (.agg cs) x) : ∃ cs', x = .agg cs' ∧ CRel φ cs.toList cs'.toList := VRel.agg_inv (.ar h)
theorem VRel.ptr_inv {φ : Phi} {a : Option Addr} {x : Value} (h : VRel φ (.pointer a) x) : PRel φ (.pointer a) x := by
  cases h with
  | ar h => cases h with
    | sc h => cases h with
      | ptr h => exact h
theorem VRel.addr_inv {φ : Phi} {b off : Nat} {x : Value} (h : VRel φ (.pointer (some ⟨b, off, none⟩)) x) : ∃ p, φ b = some p ∧ x = .pointer (some ⟨p.B, p.o + off, none⟩) := by
  cases h.ptr_inv with
  | ptr h2 => exact ⟨_, h2, rfl⟩
theorem VRel.slice_inv {φ : Phi} {a : Option Addr} {l c : Nat} {x : Value} (h : VRel φ (.slice a l c) x) : SRel φ (.slice a l c) x := by
  cases h with
  | ar h => cases h with
    | sc h => exact h
theorem VRel.snil_inv {φ : Phi} {l c : Nat} {x : Value} (h : VRel φ (.slice none l c) x) : l = 0 ∧ c = 0 ∧ x = .slice none 0 0 := by
  cases h.slice_inv with
  | snil => exact ⟨rfl, rfl, rfl⟩
  | ptr h => cases h
theorem VRel.tup_inv {φ : Phi} {vs : Array Value} {x : Value} (h : VRel φ (.tuple vs) x) : ∃ vs', x = .tuple vs' ∧ vs.size = vs'.size ∧ ∀ (i : Nat) (v : Value), vs[i]? = some v → ∃ v', vs'[i]? = some v' ∧ ARel φ v v' := by
  cases h with
  | ar h => cases h with
    | sc h => cases h with
      | ptr h => cases h
  | tup hs h => exact ⟨_, rfl, hs, h⟩

section
variable {P : Program} {T : Tab} (hT : T.Ok P) {φ : Phi} (w : World)
include hT

theorem Tab.Ok.und {t : TypeId} {i : TI} (h : T.ty t = some i) : (underlying t).run P w = .ok i.desc w := run_underlying (hT.ty t i h).1 w
theorem Tab.Ok.sizeOf {t : TypeId} {i : TI} (h : T.ty t = some i) : (sizeOf t).run P w = .ok i.size w := by
  obtain ⟨_, inf, h1, h2, _⟩ := hT.ty t i h
  simp [Go.sizeOf, typeInfo, h1, h2]
theorem Tab.Ok.zeroV {t : TypeId} {i : TI} (h : T.ty t = some i) : (zeroValue t).run P w = .ok i.zero w := by
  obtain ⟨_, inf, h1, _, _, h2⟩ := hT.ty t i h
  simp [Go.zeroValue, typeInfo, h1, h2]
theorem Tab.Ok.isAgg {t : TypeId} {i : TI} (h : T.ty t = some i) : (isAgg t).run P w = .ok (isAggD i.desc) w := by
  simp only [Go.isAgg, Sem.run_bind, hT.und w h, Result.andThen_ok]
  cases i.desc <;> rfl

theorem apart_run {t : TypeId} {cs cs' : Array Value} {off : Nat} {v : Value} (hc : CRel φ cs.toList cs'.toList) (h : apart T t cs off = some v) :
    ∃ v', (part t cs' off).run P w = .ok v' w ∧ ARel φ v v' := by
  unfold apart at h
  split at h
  · cases h
  · rename_i i hi
    have hs : cs.size = cs'.size := by simpa using hc.1
    simp only [part, Sem.run_bind, hT.isAgg w hi, Result.andThen_ok]
    split at h
    · rename_i ha
      split at h
      · rename_i hlen
        injection h with h; subst h
        refine ⟨.agg (cs'.extract off (off + i.size)), by simp [ha, hT.sizeOf w hi], .agg ?_⟩
        have := (hc.drop off).take i.size
        simpa [Array.toList_extract, List.extract_eq_take_drop] using this
      · cases h
    · rename_i ha
      obtain ⟨v', e, hr⟩ := hc.2 off v (by simpa using h)
      refine ⟨v', ?_, .sc hr⟩
      have e' : cs'[off]? = some v' := by simpa using e
      simp [ha, e']
omit hT in
theorem aint_run {op : BinOp} {t : TypeId} {k : IntKind} {x y : Int} {v : Value} (h1 : op ≠ .shl) (h2 : op ≠ .shr) (h : aint op k x y = some v) : (binOp op t (.int k x) (.int k y)).run P w = .ok v w ∧ SRel φ v v := by
  cases op <;> simp only [aint] at h <;> (try split at h) <;> simp_all
  all_goals (subst h; refine ⟨?_, by constructor⟩; simp_all [binOp, Op.intArith, Op.intDiv, Op.intBits, Op.intCmp])
omit hT in
theorem ashift_run {op : BinOp} {t : TypeId} {k k' : IntKind} {x y : Int} {v : Value} (h : ashift op k x y = some v) : (binOp op t (.int k x) (.int k' y)).run P w = .ok v w ∧ SRel φ v v := by
  unfold ashift at h
  split at h
  · cases h
  · rename_i hy
    split at h
    · injection h with h; subst h; exact ⟨by simp [binOp, Op.shift, hy], .int _ _⟩
    · injection h with h; subst h; exact ⟨by simp [binOp, Op.shift, hy], .int _ _⟩
    · cases h
omit hT in
theorem astr_run {op : BinOp} {t : TypeId} {x y : ByteArray} {v : Value} (h : astr op x y = some v) : (binOp op t (.string x) (.string y)).run P w = .ok v w ∧ SRel φ v v := by
  cases op <;> simp only [astr] at h <;> (try split at h) <;> (try cases h)
  all_goals (refine ⟨?_, by constructor⟩; simp_all [binOp, Op.stringOp])
omit hT in
theorem PRel.notnil {φ : Phi} {a : Addr} {x : Value} (h : PRel φ (.pointer (some a)) x) : ∃ a', x = .pointer (some a') := by
  cases h with
  | ptr h => exact ⟨_, rfl⟩
omit hT in
theorem ARel.nilp_inv {φ : Phi} {x : Value} (h : ARel φ (.pointer none) x) : x = .pointer none := by
  cases VRel.ptr_inv (.ar h) with
  | nilp => rfl
omit hT in
theorem ARel.ptr_some {φ : Phi} {a : Addr} {x : Value} (h : ARel φ (.pointer (some a)) x) : ∃ a', x = .pointer (some a') := (VRel.ptr_inv (.ar h)).notnil
omit hT in
theorem ARel.ptr_any {φ : Phi} {a : Option Addr} {x : Value} (h : ARel φ (.pointer a) x) : ∃ a', x = .pointer a' ∧ a'.isNone = a.isNone := by
  cases a with
  | none => exact ⟨none, h.nilp_inv, rfl⟩
  | some a => obtain ⟨a', e⟩ := h.ptr_some; exact ⟨some a', e, rfl⟩
omit hT in
theorem ARel.slice_any {φ : Phi} {a : Option Addr} {l c : Nat} {x : Value} (h : ARel φ (.slice a l c) x) : ∃ a' c', x = .slice a' l c' ∧ a'.isNone = a.isNone := by
  cases VRel.slice_inv (.ar h) with
  | snil => exact ⟨none, 0, rfl, rfl⟩
  | sl h => exact ⟨_, _, rfl, rfl⟩
  | sl0 h0' a => exact ⟨_, _, rfl, rfl⟩
  | sle a => exact ⟨_, _, rfl, rfl⟩
  | ptr h => cases h
omit hT in
theorem ARel.nilFunc_inv {φ : Phi} {x : Value} (h : ARel φ .nilFunc x) : x = .nilFunc := by
  cases h with
  | sc h => cases h with
    | nilFunc => rfl
    | ptr h => cases h
omit hT in
theorem ARel.func_any {φ : Phi} {f : Fn} {a b : Array Value} {x : Value} (h : ARel φ (.func f a b) x) : ∃ f' a' b', x = .func f' a' b' := by
  cases h with
  | sc h => cases h with
    | fn hs h => exact ⟨_, _, _, rfl⟩
    | ptr h => cases h

theorem aeq_run (d : Nat) : (∀ (n : Nat) (t : TypeId) (x y x' y' : Value) (r : Bool), d ≤ n → aeq T d t x y = some r → ARel φ x x' → ARel φ y y' → (Op.equalIn n t x' y').run P w = .ok r w) ∧
    (∀ (n : Nat) (xs ys xs' ys' : Array Value) (fs : List Field) (r : Bool), d ≤ n → aeqs T d xs ys fs = some r → CRel φ xs.toList xs'.toList → CRel φ ys.toList ys'.toList → (Op.eqFields n xs' ys' fs).run P w = .ok r w) := by
  induction d with
  | zero => exact ⟨fun n t x y x' y' r _ h => by simp [aeq] at h, fun n xs ys xs' ys' fs r _ h => by simp [aeqs] at h⟩
  | succ d ih =>
    constructor
    · intro n t x y x' y' r hn h hx hy
      obtain ⟨n, rfl⟩ : ∃ m, n = m + 1 := ⟨n - 1, by omega⟩
      simp only [aeq] at h
      split at h
      · cases h
      · rename_i i hi
        have hu := (hT.ty t i hi).1
        split at h
        · rename_i hd; cases h
          rw [VRel.bool_inv (.ar hx), VRel.bool_inv (.ar hy)]; exact run_equalIn_bool' w n t _ _ (by rw [hu, hd])
        · rename_i hd; split at h
          · rename_i hk; cases h; subst hk
            rw [VRel.int_inv (.ar hx), VRel.int_inv (.ar hy)]; exact run_equalIn_int w n t _ _ _ _ (by rw [hu, hd])
          · cases h
        · rename_i hd; cases h
          rw [VRel.string_inv (.ar hx), VRel.string_inv (.ar hy)]; exact run_equalIn_string w n t _ _ (by rw [hu, hd])
        · rename_i hd; cases h
          obtain ⟨b', rfl, hb⟩ := hy.ptr_any
          rw [hx.nilp_inv]
          simp [Op.equalIn, hT.und w hi, hd, hb]
        · rename_i hd; cases h
          obtain ⟨a', rfl⟩ := hx.ptr_some
          rw [hy.nilp_inv]
          simp [Op.equalIn, hT.und w hi, hd]
        · rename_i hd; cases h
          obtain ⟨a', c', rfl, ha⟩ := hx.slice_any
          obtain ⟨b', d', rfl, hb⟩ := hy.slice_any
          cases a' with
          | none => simp [Op.equalIn, hT.und w hi, hd, hb]
          | some a' => simp at ha
        · rename_i hd; cases h
          obtain ⟨a', c', rfl, ha⟩ := hx.slice_any
          obtain ⟨b', d', rfl, hb⟩ := hy.slice_any
          cases a' with
          | none => simp at ha
          | some a' => cases b' with
            | none => simp [Op.equalIn, hT.und w hi, hd]
            | some b' => simp at hb
        · rename_i hd; cases h
          rw [hx.nilFunc_inv, hy.nilFunc_inv]
          simp [Op.equalIn, hT.und w hi, hd]
        · rename_i hd; cases h
          obtain ⟨f', a', b', rfl⟩ := hy.func_any
          rw [hx.nilFunc_inv]
          simp [Op.equalIn, hT.und w hi, hd]
        · rename_i hd; cases h
          obtain ⟨f', a', b', rfl⟩ := hx.func_any
          rw [hy.nilFunc_inv]
          simp [Op.equalIn, hT.und w hi, hd]
        · rename_i fields xs ys hd; split at h
          · rename_i he
            obtain ⟨xs', rfl, hxs⟩ := hx.agg_inv
            obtain ⟨ys', rfl, hys⟩ := hy.agg_inv
            have hf : P.fieldsOf t = fields := by simp [Program.fieldsOf, hu, hd]
            rw [run_equalIn_struct w n t xs' ys' (by rw [hf, hu, hd]) (hT.eqs t i hi he).1, hf]
            exact ih.2 n xs ys xs' ys' _ r (by omega) h hxs hys
          · cases h
        · cases h
    · intro n xs ys xs' ys' fs r hn h hx hy
      cases fs with
      | nil => simp only [aeqs] at h; cases h; simp [Op.eqFields]
      | cons f fs =>
        simp only [aeqs] at h
        simp only [Op.eqFields]
        split at h
        · rename_i hf
          rw [if_pos hf]
          split at h
          · rename_i a b ha hb
            obtain ⟨a', ra, ka⟩ := apart_run hT w hx ha
            obtain ⟨b', rb, kb⟩ := apart_run hT w hy hb
            simp only [Sem.run_bind, ra, rb, Result.andThen_ok]
            split at h
            · rename_i he
              rw [ih.1 n _ _ _ _ _ _ (by omega) he ka kb]
              simp only [Result.andThen_ok, Bool.not_true, Bool.false_eq_true, if_false]
              exact ih.2 n xs ys xs' ys' _ r (by omega) h hx hy
            · rename_i he
              cases h
              rw [ih.1 n _ _ _ _ _ _ (by omega) he ka kb]
              simp
            · cases h
          · cases h
        · rename_i hf
          rw [if_neg hf]
          exact ih.2 n xs ys xs' ys' _ r (by omega) h hx hy

theorem aeq_equal {t : TypeId} {x y x' y' : Value} {r : Bool} (h : aeq T 60 t x y = some r) (hx : ARel φ x x') (hy : ARel φ y y') : (Op.equal t x' y').run P w = .ok r w :=
  (aeq_run hT w 60).1 Op.maxDepth t x y x' y' r (by decide) h hx hy
omit hT in
theorem VRel.toA {φ : Phi} {v v' : Value} (h : VRel φ v v') (hn : ∀ vs, v ≠ .tuple vs) : ARel φ v v' := by
  cases h with
  | ar h => exact h
  | tup hs h => exact absurd rfl (hn _)
omit hT in
theorem aeq_not_tuple {d : Nat} {t : TypeId} {x y : Value} {r : Bool} (h : aeq T d t x y = some r) : (∀ vs, x ≠ .tuple vs) ∧ (∀ vs, y ≠ .tuple vs) := by
  cases d with
  | zero => simp [aeq] at h
  | succ d =>
    simp only [aeq] at h
    constructor <;> (rintro vs rfl; split at h <;> (try cases h); split at h <;> simp_all)
omit hT in
theorem eqGuard_not {op : BinOp} {t : TypeId} {X Y : Operand} {x y : Value} (h : op ≠ .eql) (h2 : op ≠ .neq) : (eqGuard op t X Y x y).run P w = .ok () w := by
  cases op <;> simp_all [eqGuard]
theorem eqGuard_eq {op : BinOp} {t : TypeId} {X Y : Operand} {d : Nat} {x y x' y' : Value} {r : Bool} (h : aeq T d t x y = some r) (hx : ARel φ x x') (hy : ARel φ y y') : (eqGuard op t X Y x' y').run P w = .ok () w := by
  cases d with
  | zero => simp [aeq] at h
  | succ d =>
    simp only [aeq] at h
    split at h
    · cases h
    · rename_i i hi
      split at h
      · rw [VRel.bool_inv (.ar hx), VRel.bool_inv (.ar hy)]; cases op <;> simp [eqGuard]
      · rw [VRel.int_inv (.ar hx), VRel.int_inv (.ar hy)]; cases op <;> simp [eqGuard]
      · rw [VRel.string_inv (.ar hx), VRel.string_inv (.ar hy)]; cases op <;> simp [eqGuard]
      · obtain ⟨b', rfl, hb⟩ := hy.ptr_any; rw [hx.nilp_inv]; cases op <;> simp [eqGuard]
      · obtain ⟨a', rfl⟩ := hx.ptr_some; rw [hy.nilp_inv]; cases op <;> simp [eqGuard]
      · obtain ⟨a', c', rfl, ha⟩ := hx.slice_any
        obtain ⟨b', d', rfl, hb⟩ := hy.slice_any
        cases op <;> simp [eqGuard]
      · obtain ⟨a', c', rfl, ha⟩ := hx.slice_any
        obtain ⟨b', d', rfl, hb⟩ := hy.slice_any
        cases op <;> simp [eqGuard]
      · rw [hx.nilFunc_inv, hy.nilFunc_inv]; cases op <;> simp [eqGuard]
      · obtain ⟨f', a', b', rfl⟩ := hy.func_any; rw [hx.nilFunc_inv]; cases op <;> simp [eqGuard]
      · obtain ⟨f', a', b', rfl⟩ := hx.func_any; rw [hy.nilFunc_inv]; cases op <;> simp [eqGuard]
      · split at h
        · rename_i he
          obtain ⟨xs', rfl, hxs⟩ := hx.agg_inv
          obtain ⟨ys', rfl, hys⟩ := hy.agg_inv
          exact run_eqGuard_agg w op t X Y xs' ys' (hT.eqs t i hi he).2
        · cases h
      · cases h

omit hT in
theorem eqGuard_lit1 {op : BinOp} {t : TypeId} {X Y : Operand} {k k' : IntKind} {a b : Int} : (eqGuard op t X Y (.int k a) (.int k' b)).run P w = .ok () w := by cases op <;> simp [eqGuard]
omit hT in
theorem eqGuard_lit2 {op : BinOp} {t : TypeId} {X Y : Operand} {a b : ByteArray} : (eqGuard op t X Y (.string a) (.string b)).run P w = .ok () w := by cases op <;> simp [eqGuard]
omit hT in
theorem binOp_eq_form {d : Nat} {t : TypeId} {x y x' y' : Value} {r : Bool} (h : aeq T d t x y = some r) (hx : ARel φ x x') (hy : ARel φ y y')
    (h1 : ∀ k a k' b, x = .int k a → y = .int k' b → False) (h2 : ∀ a b, x = .string a → y = .string b → False) :
    (binOp .eql t x' y' = do pure (.bool (← Op.equal t x' y'))) ∧ (binOp .neq t x' y' = do pure (.bool (!(← Op.equal t x' y')))) := by
  cases d with
  | zero => simp [aeq] at h
  | succ d =>
    simp only [aeq] at h
    split at h
    · cases h
    · split at h
      · rw [VRel.bool_inv (.ar hx), VRel.bool_inv (.ar hy)]; exact ⟨rfl, rfl⟩
      · exact (h1 _ _ _ _ rfl rfl).elim
      · exact (h2 _ _ rfl rfl).elim
      · obtain ⟨b', rfl, hb⟩ := hy.ptr_any; rw [hx.nilp_inv]; cases b' <;> exact ⟨rfl, rfl⟩
      · obtain ⟨a', rfl⟩ := hx.ptr_some; rw [hy.nilp_inv]; exact ⟨rfl, rfl⟩
      · obtain ⟨a', c', rfl, ha⟩ := hx.slice_any
        obtain ⟨b', d', rfl, hb⟩ := hy.slice_any
        exact ⟨rfl, rfl⟩
      · obtain ⟨a', c', rfl, ha⟩ := hx.slice_any
        obtain ⟨b', d', rfl, hb⟩ := hy.slice_any
        exact ⟨rfl, rfl⟩
      · rw [hx.nilFunc_inv, hy.nilFunc_inv]; exact ⟨rfl, rfl⟩
      · obtain ⟨f', a', b', rfl⟩ := hy.func_any; rw [hx.nilFunc_inv]; exact ⟨rfl, rfl⟩
      · obtain ⟨f', a', b', rfl⟩ := hx.func_any; rw [hy.nilFunc_inv]; exact ⟨rfl, rfl⟩
      · obtain ⟨xs', rfl, hxs⟩ := hx.agg_inv
        obtain ⟨ys', rfl, hys⟩ := hy.agg_inv
        exact ⟨rfl, rfl⟩
      · cases h

theorem abin_run {op : BinOp} {t : TypeId} {X Y : Operand} {x y x' y' v : Value} (h : abin T op t x y = some v) (hx : VRel φ x x') (hy : VRel φ y y') :
    (do eqGuard op t X Y x' y'; binOp op t x' y' : Sem Value).run P w = .ok v w ∧ SRel φ v v := by
  simp only [Sem.run_bind]
  unfold abin at h
  split at h
  · rw [hx.int_inv, hy.int_inv, eqGuard_not w (by simp) (by simp)]; exact ashift_run w h
  · rw [hx.int_inv, hy.int_inv, eqGuard_not w (by simp) (by simp)]; exact ashift_run w h
  · rename_i h1 h2
    split at h
    · rename_i hk; subst hk
      rw [hx.int_inv, hy.int_inv]
      rw [eqGuard_lit1 w]
      exact aint_run w h1 h2 h
    · cases h
  · rw [hx.string_inv, hy.string_inv]
    rw [eqGuard_lit2 w]; exact astr_run w h
  · rename_i h1 h2
    obtain ⟨r, hr, rfl⟩ := Option.map_eq_some_iff.1 h
    obtain ⟨nx, ny⟩ := aeq_not_tuple hr
    have ax := hx.toA nx
    have ay := hy.toA ny
    rw [eqGuard_eq hT w hr ax ay]
    refine ⟨?_, .bool _⟩
    simp only [Result.andThen_ok]
    rw [(binOp_eq_form hr ax ay h1 h2).1]
    simp [aeq_equal hT w hr ax ay]
  · rename_i h1 h2
    obtain ⟨r, hr, rfl⟩ := Option.map_eq_some_iff.1 h
    obtain ⟨nx, ny⟩ := aeq_not_tuple hr
    have ax := hx.toA nx
    have ay := hy.toA ny
    rw [eqGuard_eq hT w hr ax ay]
    refine ⟨?_, .bool _⟩
    simp only [Result.andThen_ok]
    rw [(binOp_eq_form hr ax ay h1 h2).2]
    simp [aeq_equal hT w hr ax ay]
  · cases h
end
end Go.Ab

/- The pure operations on structs, addresses, slices. -/
set_option linter.unusedVariables false
namespace Go.Ab

theorem addr_add (B o n : Nat) : (⟨B, o, none⟩ : Addr).add n = ⟨B, o + n, none⟩ := by
  unfold Addr.add
  split
  · rename_i h; subst h; rfl
  · rfl

theorem VRel.cells_of {φ : Phi} {v v' : Value} (h : VRel φ v v') (hn : ∀ vs, v ≠ .tuple vs) : CRel φ v.cells.toList v'.cells.toList := (h.toA hn).cells

/-- Parts, pointwise. -/
def PartsRel (φ : Phi) (ps ps' : List (Nat × Value)) : Prop := ps.length = ps'.length ∧ ∀ (j : Nat) (i : Nat) (v : Value), ps[j]? = some (i, v) → ∃ v', ps'[j]? = some (i, v') ∧ ARel φ v v'
theorem PartsRel.uncons {φ : Phi} {i : Nat} {v : Value} {ps ps' : List (Nat × Value)} (h : PartsRel φ ((i, v) :: ps) ps') : ∃ v' qs, ps' = (i, v') :: qs ∧ ARel φ v v' ∧ PartsRel φ ps qs := by
  cases ps' with
  | nil => simp [PartsRel] at h
  | cons p qs =>
    obtain ⟨v', e, ha⟩ := h.2 0 i v (by simp)
    simp at e; subst e
    refine ⟨v', qs, rfl, ha, by have := h.1; simpa using this, fun j k u e => ?_⟩
    have := h.2 (j + 1) k u (by simpa using e)
    simpa using this

theorem fold_cells {φ : Phi} (off : Nat) : ∀ (xs ys : List Value) (k : Nat) (cs cs' : Array Value), CRel φ xs ys → CRel φ cs.toList cs'.toList →
    CRel φ ((xs.zipIdx k).foldl (fun cs (p : Value × Nat) => cs.setIfInBounds (off + p.2) p.1) cs).toList ((ys.zipIdx k).foldl (fun cs (p : Value × Nat) => cs.setIfInBounds (off + p.2) p.1) cs').toList
  | [], ys, k, cs, cs', h, hc => by
    have : ys = [] := List.eq_nil_of_length_eq_zero h.1.symm
    subst this; exact hc
  | x :: xs, ys, k, cs, cs', h, hc => by
    obtain ⟨y, ys', rfl, hxy, ht⟩ := h.uncons
    simp only [List.zipIdx_cons, List.foldl_cons]
    refine fold_cells off xs ys' (k + 1) _ _ ht ⟨by simpa using hc.1, fun i v e => ?_⟩
    simp only [Array.toList_setIfInBounds, List.getElem?_set] at e ⊢
    have hl : cs.toList.length = cs'.toList.length := hc.1
    split at e
    · rename_i hk
      split at e
      · rename_i hlt
        cases e
        rw [if_pos hk, if_pos (by omega)]
        exact ⟨y, rfl, hxy⟩
      · cases e
    · rename_i hk
      rw [if_neg hk]
      exact hc.2 i v e

theorem fill_rel {φ : Phi} (place place' : Nat → Option (Nat × Nat)) (hp : ∀ i q, place i = some q → place' i = some q) : ∀ (ps ps' : List (Nat × Value)) (cs cs' r : Array Value), PartsRel φ ps ps' → CRel φ cs.toList cs'.toList →
    Instr.fill place cs ps = some r → ∃ r', Instr.fill place' cs' ps' = some r' ∧ CRel φ r.toList r'.toList
  | [], ps', cs, cs', r, h, hc, e => by
    have : ps' = [] := List.eq_nil_of_length_eq_zero h.1.symm
    subst this
    simp only [Instr.fill] at e ⊢
    cases e
    exact ⟨_, rfl, hc⟩
  | (i, v) :: ps, ps', cs, cs', r, h, hc, e => by
    obtain ⟨v', qs, rfl, hv, ht⟩ := h.uncons
    simp only [Instr.fill] at e ⊢
    split at e
    · cases e
    · rename_i off size hpl
      rw [hp _ _ hpl]
      simp only
      have hcv := hv.cells
      have hl : v.cells.size = v'.cells.size := by simpa using hcv.1
      have hl2 : cs.size = cs'.size := by simpa using hc.1
      split at e
      · cases e
      · rename_i hb
        rw [if_neg (by rw [← hl, ← hl2]; exact hb)]
        refine fill_rel place place' hp ps qs _ _ r ht ?_ e
        have := fold_cells (φ := φ) off v.cells.toList v'.cells.toList 0 cs cs' hcv hc
        rw [← Array.foldl_toList, ← Array.foldl_toList]
        simpa [Array.toList_zipIdx] using this

section
variable {P : Program} {T : Tab} (hT : T.Ok P) {φ : Phi} (w : World)
include hT

omit hT in
theorem aun_run {op : UnOp} {x x' v : Value} (h : aun op x = some v) (hx : VRel φ x x') : (Op.unary op x').run P w = .ok v w ∧ SRel φ v v := by
  unfold aun at h
  split at h
  · cases h; rw [hx.int_inv]; exact ⟨by simp [Op.unary, Op.intArith], .int _ _⟩
  · cases h; rw [hx.bool_inv]; exact ⟨by simp [Op.unary], .bool _⟩
  · cases h

theorem mapM_places (fields : List Field) (h : ∀ f ∈ fields, ∃ k, T.ty f.type = some k) :
    ∃ r : List (Nat × Nat), (fields.mapM (fun f => do pure (f.offset, ← Go.sizeOf f.type)) : Sem _).run P w = .ok r w ∧
      ∀ (j : Nat) (f : Field) (k : TI), fields[j]? = some f → T.ty f.type = some k → r[j]? = some (f.offset, k.size) := by
  induction fields with
  | nil => exact ⟨[], by simp, fun j f k h => by simp at h⟩
  | cons f fs ih =>
    obtain ⟨k, hk⟩ := h f (by simp)
    obtain ⟨r, hr, hj⟩ := ih fun g hg => h g (by simp [hg])
    refine ⟨(f.offset, k.size) :: r, ?_, ?_⟩
    · simp [List.mapM_cons, hT.sizeOf w hk]
      rw [show (List.mapM (fun f => (fun a => (f.offset, a)) <$> Go.sizeOf f.type) fs : Sem _) = List.mapM (fun f => do pure (f.offset, ← Go.sizeOf f.type)) fs from by simp]
      rw [hr]; simp
    · intro j g k' hg hk'
      cases j with
      | zero => simp at hg; subst hg; rw [hk] at hk'; cases hk'; simp
      | succ j => simp at hg ⊢; exact hj j g k' hg hk'

theorem abuild_run {t : TypeId} {ps ps' : List (Nat × Value)} {v : Value} (h : abuild T t ps = some v) (hp : PartsRel φ ps ps') :
    ∃ v', (Instr.build t ps'.toArray).run P w = .ok v' w ∧ ARel φ v v' := by
  unfold abuild at h
  split at h
  · cases h
  · rename_i i hi
    split at h
    · rename_i fields hd
      obtain ⟨cs, hf, rfl⟩ := Option.map_eq_some_iff.1 h
      obtain ⟨r, hr, hj⟩ := mapM_places hT w fields.toList (hT.parts t i fields hi hd)
      have hz : CRel φ i.zero.cells.toList i.zero.cells.toList := (ARel.closed φ (hT.zero t i hi)).cells
      obtain ⟨cs', hf', hc⟩ := fill_rel (φ := φ) _ (fun j => r.toArray[j]?) (fun j q hq => by
        split at hq
        · rename_i f hfj
          split at hq
          · rename_i k hk
            cases hq
            have := hj j f k (by simpa using hfj) hk
            simpa using this
          · cases hq
        · cases hq) ps ps' i.zero.cells i.zero.cells cs hp hz hf
      refine ⟨.agg cs', ?_, .agg hc⟩
      unfold Instr.build
      simp only [Sem.run_bind, hT.zeroV w hi, hT.und w hi, hd, Result.andThen_ok]
      rw [Array.mapM_eq_mapM_toList]
      simp only [Sem.run_map, hr, Result.andThen_ok]
      rw [hf']
      simp
    · cases h

theorem aindex_run {t : TypeId} {x ix x' ix' v : Value} (h : aindex T t x ix = some v) (hx : VRel φ x x') (hi : VRel φ ix ix') : ∃ v', (Instr.indexAt t x' ix').run P w = .ok v' w ∧ VRel φ v v' := by
  unfold aindex at h
  split at h
  · rename_i ht
    split at h
    · rename_i k hk
      split at h
      · rename_i hb
        obtain ⟨hz, h0, hl⟩ := hb
        cases h
        rw [hi.int_inv]
        have hd := hT.und w ht
        cases hx.slice_inv with
        | ptr h => cases h
        | sl h h1 h2 h3 h4 =>
          refine ⟨_, ?_, .ar (.sc (.ptr (.ptr h)))⟩
          simp [Instr.indexAt, asIntOf, hd, h0, hl, hT.sizeOf w hk, hz, addr_add, Nat.add_assoc]
        | sl0 h0' a => omega
      · cases h
    · cases h
  · rename_i ht
    split at h
    · rename_i k hk
      split at h
      · rename_i hb
        obtain ⟨h0, hl⟩ := hb
        cases h
        rw [hi.int_inv]
        have hd := hT.und w ht
        obtain ⟨p, hp, rfl⟩ := hx.addr_inv
        refine ⟨_, ?_, .ar (.sc (.ptr (.ptr hp)))⟩
        simp [Instr.indexAt, asIntOf, hd, h0, hl, hT.sizeOf w hk, addr_add, Nat.add_assoc, Instr.sureAddr]
      · cases h
    · cases h
  · cases h

theorem afield_run {t : TypeId} {x x' v : Value} {f : Nat} (h : afield T t x f = some v) (hx : VRel φ x x') : ∃ v', (Instr.fieldAt t x' f).run P w = .ok v' w ∧ VRel φ v v' := by
  unfold afield at h
  split at h
  · rename_i ht
    split at h
    · rename_i fd hf
      split at h
      · rename_i k hk
        split at h
        · cases h
        · rename_i hz
          cases h
          obtain ⟨p, hp, rfl⟩ := hx.addr_inv
          refine ⟨_, ?_, .ar (.sc (.ptr (.ptr hp)))⟩
          simp [Instr.fieldAt, hT.und w ht, hf, Instr.sureAddr, fieldPlace, hT.sizeOf w hk, hz, addr_add, Nat.add_assoc]
      · cases h
    · cases h
  · cases h

theorem apick_run {t : TypeId} {x x' v : Value} {f : Nat} (h : apick T t x f = some v) (hx : VRel φ x x') : ∃ v', (Instr.field t x' f).run P w = .ok v' w ∧ VRel φ v v' := by
  unfold apick at h
  split at h
  · rename_i ht
    split at h
    · rename_i fd hf
      obtain ⟨cs', rfl, hc⟩ := hx.agg_inv
      obtain ⟨v', hr, hv⟩ := apart_run hT w hc h
      refine ⟨v', ?_, .ar hv⟩
      simp [Instr.field, hT.und w ht, hf, asAgg, hr]
    · cases h
  · cases h

omit hT in
/-- An optional bound. -/
def ORel (φ : Phi) (o o' : Option Value) : Prop := match o, o' with
  | none, none => True
  | some v, some v' => VRel φ v v'
  | _, _ => False

omit hT in
theorem abound_inv {n d r : Nat} {o o' : Option Value} (h : abound n o d = some r) (ho : ORel φ o o') : (o' = none ∧ r = d) ∨ ∃ (k : IntKind) (i : Int), o' = some (.int k i) ∧ 0 ≤ i ∧ i ≤ n ∧ r = i.toNat := by
  cases o with
  | none => cases o' with
    | none => simp [abound] at h; exact .inl ⟨rfl, h.symm⟩
    | some v => exact ho.elim
  | some u => cases o' with
    | none => exact ho.elim
    | some v =>
      cases u <;> simp only [abound] at h <;> try cases h
      rename_i k i
      have ho : VRel φ _ _ := ho
      rw [ho.int_inv]
      split at h
      · rename_i hb
        cases h
        exact .inr ⟨k, i, rfl, hb.1, hb.2, rfl⟩
      · cases h

omit hT in
theorem bounds_run {n c h l : Nat} {isS : Bool} {lo hi lo' hi' : Option Value} (hn : n ≤ c) (hh : abound n hi n = some h) (hl : abound h lo 0 = some l) (rh : ORel φ hi hi') (rl : ORel φ lo lo') :
    (Instr.sliceBounds isS n c lo' hi' none).run P w = .ok (l, h, c) w ∧ l ≤ h ∧ h ≤ n := by
  rcases abound_inv hh rh with ⟨rfl, rfl⟩ | ⟨k, i, rfl, h0, h1, rfl⟩ <;> rcases abound_inv hl rl with ⟨rfl, rfl⟩ | ⟨k', i', rfl, l0, l1, rfl⟩
  · exact ⟨by simp [Instr.sliceBounds], by omega, by omega⟩
  · refine ⟨?_, by omega, by omega⟩
    unfold Instr.sliceBounds
    simp only [Sem.run_bind, Sem.run_pure, Result.andThen_ok, run_sliceBound w k' i' _ _ l0 l1]
  · refine ⟨?_, by omega, by omega⟩
    unfold Instr.sliceBounds
    simp only [Sem.run_bind, Sem.run_pure, Result.andThen_ok, run_sliceBound w k i c _ h0 (by omega)]
  · refine ⟨?_, by omega, by omega⟩
    unfold Instr.sliceBounds
    simp only [Sem.run_bind, Sem.run_pure, Result.andThen_ok, run_sliceBound w k i c _ h0 (by omega), run_sliceBound w k' i' _ _ l0 l1]

theorem aslice_run {t : TypeId} {x x' v : Value} {lo hi lo' hi' : Option Value} (h : aslice T t x lo hi = some v) (hx : VRel φ x x') (rl : ORel φ lo lo') (rh : ORel φ hi hi') :
    ∃ v', (Instr.sliceAt t x' lo' hi' none).run P w = .ok v' w ∧ VRel φ v v' := by
  unfold aslice at h
  split at h
  · rename_i ht
    split at h
    · cases h
    · rename_i hh eh
      split at h
      · cases h
      · rename_i ll el
        cases h
        rw [hx.string_inv]
        refine ⟨_, ?_, .sc (.string _)⟩
        simp [Instr.sliceAt, Instr.slice, hT.und w ht, (bounds_run (φ := φ) (P := P) (isS := false) w (Nat.le_refl _) eh el rh rl).1]
  · rename_i e _ _ _ ht
    split at h
    · cases h
    · rename_i k hk
      split at h
      · cases h
      · rename_i hh eh
        split at h
        · cases h
        · rename_i ll el
          cases h
          obtain ⟨_, _, rfl⟩ := hx.snil_inv
          have hb := bounds_run (φ := φ) (P := P) (isS := true) (n := 0) (c := 0) w (Nat.le_refl _) eh el rh rl
          have h0 : hh = 0 := by omega
          have l0 : ll = 0 := by omega
          subst h0; subst l0
          refine ⟨.slice none 0 0, ?_, .sc .snil⟩
          simp [Instr.sliceAt, Instr.slice, hT.und w ht, hb.1, hT.sizeOf w hk]
  · rename_i e _ _ _ ht
    split at h
    · cases h
    · rename_i k hk
      split at h
      · cases h
      · rename_i hh eh
        split at h
        · cases h
        · rename_i ll el
          cases h
          cases hx.slice_inv with
          | ptr h => cases h
          | sle a =>
            have hb := bounds_run (φ := φ) (P := P) (isS := true) (n := 0) (c := 0) w (Nat.le_refl _) eh el rh rl
            have h0 : hh = 0 := by omega
            have l0 : ll = 0 := by omega
            subst h0; subst l0
            refine ⟨.slice (some a) 0 0, ?_, .sc (.sle a)⟩
            simp [Instr.sliceAt, Instr.slice, hT.und w ht, hb.1, hT.sizeOf w hk]
  · rename_i e _ _ _ b off len sz ht
    split at h
    · cases h
    · rename_i k hk
      split at h
      · rename_i hz
        split at h
        · cases h
        · rename_i hh eh
          split at h
          · cases h
          · rename_i ll el
            cases h
            cases hx.slice_inv with
            | ptr h => cases h
            | @sl _ _ _ _ cap p h h1 h2 h3 h4 =>
              have hb := bounds_run (φ := φ) (P := P) (isS := true) w h1 eh el rh rl
              obtain ⟨hb, hb1, hb2⟩ := hb
              have hrun : ∀ v', v' = Value.slice (if cap = ll then some ⟨p.B, p.o + off, none⟩ else some ⟨p.B, p.o + off + ll * sz, none⟩) (hh - ll) (cap - ll) → (Instr.sliceAt t (.slice (some ⟨p.B, p.o + off, none⟩) len cap) lo' hi' none).run P w = .ok v' w := by
                rintro v' rfl
                simp [Instr.sliceAt, Instr.slice, hT.und w ht, hb, hT.sizeOf w hk, hz, addr_add]
              by_cases hc : cap = ll
              · refine ⟨_, hrun _ rfl, ?_⟩
                rw [if_pos hc]
                have e1 : hh - ll = 0 := by omega
                have e2 : cap - ll = 0 := by omega
                rw [e1, e2]
                exact .sc (.sl0 h _)
              · refine ⟨_, hrun _ rfl, ?_⟩
                rw [if_neg hc, Nat.add_assoc]
                refine .sc (.sl h (by omega) (by omega) h3 ?_)
                rw [Nat.add_assoc, ← Nat.add_mul, Nat.add_sub_cancel' (by omega)]
                exact h4
            | sl0 h0' a =>
              have hb := bounds_run (φ := φ) (P := P) (isS := true) (n := 0) (c := 0) w (Nat.le_refl _) eh el rh rl
              have h0 : hh = 0 := by omega
              have l0 : ll = 0 := by omega
              subst h0; subst l0
              refine ⟨.slice (some a) 0 0, ?_, ?_⟩
              · simp [Instr.sliceAt, Instr.slice, hT.und w ht, hb.1, hT.sizeOf w hk]
              · simpa using VRel.sc (.sl0 (φ := φ) (b := b) (off := off) (sz := sz) h0' a)
      · cases h
  · cases h
end
end Go.Ab

/- Memory: reading, writing, making. -/
set_option linter.unusedVariables false
namespace Go.Ab

section
variable {P : Program} {T : Tab} (hT : T.Ok P) {φ : Phi} (w : World)
include hT

theorem aconvert_run {s d : TypeId} {x x' v : Value} (h : aconvert T s d x = some v) (hx : VRel φ x x') : (convert s d x').run P w = .ok v w ∧ SRel φ v v := by
  unfold aconvert at h
  split at h
  · rename_i i k n j hs hd
    cases h
    rw [hx.int_inv]
    refine ⟨?_, .int _ _⟩
    simp only [convert, Sem.run_bind, hT.und w hs, hT.und w hd, Result.andThen_ok]
    simp [Conv.intToInt]
  · rename_i i s j hs hd
    cases h
    rw [hx.string_inv]
    refine ⟨?_, .string _⟩
    simp only [convert, Sem.run_bind, hT.und w hs, hT.und w hd, Result.andThen_ok]
    simp
  · cases h
omit hT in
theorem aextract_run {x x' v : Value} {i : Nat} (h : aextract x i = some v) (hx : VRel φ x x') : ∃ v', (Instr.extract x' i).run P w = .ok v' w ∧ VRel φ v v' := by
  unfold aextract at h
  split at h
  · obtain ⟨vs', rfl, hs, hv⟩ := hx.tup_inv
    obtain ⟨v', e, hr⟩ := hv i v h
    exact ⟨v', by simp [Instr.extract, e], .ar hr⟩
  · cases h
theorem alen_run {t ty : TypeId} {i : TI} {x x' v : Value} (ht : T.ty t = some i) (h : alen x = some v) (hd : (∃ s, x = .string s ∧ i.desc = .string) ∨ (∃ a l c e, x = .slice a l c ∧ i.desc = .slice e)) (hx : VRel φ x x') :
    (Builtin.len_ #[t] ty #[x']).run P w = .ok v w ∧ SRel φ v v := by
  rcases hd with ⟨s, rfl, hd⟩ | ⟨a, l, c, e, rfl, hd⟩
  · simp [alen] at h; subst h
    rw [hx.string_inv]
    refine ⟨?_, .int _ _⟩
    simp [Builtin.len_, hT.und w ht, hd]
  · simp [alen] at h; subst h
    refine ⟨?_, .int _ _⟩
    obtain ⟨a', c', rfl, _⟩ := (hx.toA (by simp)).slice_any
    simp [Builtin.len_, hT.und w ht, hd]
omit hT in
theorem amax_run {mx : Bool} : ∀ (xs xs' : List Value) (x v : Value), amax mx x xs = some v → (∃ k n, x = .int k n) → xs.length = xs'.length → (∀ (i : Nat) (u : Value), xs[i]? = some u → ∃ u', xs'[i]? = some u' ∧ VRel φ u u') →
    ((if mx then xs'.foldlM Builtin.max2 x else xs'.foldlM Builtin.min2 x) : Sem Value).run P w = .ok v w ∧ SRel φ v v
  | [], xs', x, v, h, ⟨k, n, hx⟩, hl, _ => by
    have : xs' = [] := List.eq_nil_of_length_eq_zero hl.symm
    subst this; subst hx
    simp [amax] at h; subst h
    cases mx <;> exact ⟨by simp, .int _ _⟩
  | y :: ys, xs', x, v, h, ⟨k, n, hx⟩, hl, hr => by
    subst hx
    cases xs' with
    | nil => simp at hl
    | cons y' ys' =>
      obtain ⟨u', e, hu⟩ := hr 0 y (by simp)
      simp at e; subst e
      cases y <;> simp only [amax] at h <;> try cases h
      rename_i k' m
      rw [hu.int_inv]
      have ih := amax_run ys ys' _ v h ⟨_, _, rfl⟩ (by simpa using hl) (fun i u e => by simpa using hr (i + 1) u (by simpa using e))
      cases mx
      · simp only [Bool.false_eq_true, if_false, List.foldlM_cons, Sem.run_bind] at ih ⊢
        simpa [Builtin.min2] using ih
      · simp only [if_true, List.foldlM_cons, Sem.run_bind] at ih ⊢
        simpa [Builtin.max2] using ih

/-! ### Reading cells -/
omit hT in
theorem run_cells {b off : Nat} {xs ys : List Value} (hl : xs.length = ys.length) (h : ∀ (i : Nat) (v : Value), ys[i]? = some v → w.cell? ⟨b, off + i, none⟩ = some v) :
    (loadCells ⟨b, off, none⟩ xs.length).run P w = .ok ys.toArray w := by
  have := run_loadCells_list (P := P) w ⟨b, off, none⟩ ys fun j v e => by rw [addr_add]; exact h j v e
  rw [hl]
  simpa using this
omit hT in
/-- The cells of a live block, as the world has them. -/
theorem InvG.cells {pr : Nat → Prop} {R : Nat} {G : Nat → Option Blk} {w : World} (hI : InvG pr φ R G w) {b : Nat} {x : Blk} (hb : G b = some x) : ∃ p ys, φ b = some p ∧ x.length ≤ p.cap ∧ CRel φ x ys ∧ ∀ (i : Nat) (v : Value), ys[i]? = some v → w.cell? ⟨p.B, p.o + i, none⟩ = some v := by
  obtain ⟨p, hp, hc, hv⟩ := hI.live b x hb
  refine ⟨p, (List.range x.length).map (fun i => (w.cell? ⟨p.B, p.o + i, none⟩).getD undef), hp, hc, ⟨by simp, fun i v e => ?_⟩, fun i v e => ?_⟩
  · obtain ⟨v', e', hs⟩ := hv i v e
    have hi : i < x.length := (List.getElem?_eq_some_iff.1 e).1
    exact ⟨v', by simp [List.getElem?_range hi, e'], hs⟩
  · have hi : i < x.length := by
      have := (List.getElem?_eq_some_iff.1 e).1
      simpa using this
    rw [List.getElem?_map, List.getElem?_range hi] at e
    simp at e
    have hx : x[i]? = some x[i] := List.getElem?_eq_getElem hi
    obtain ⟨v', e', hs⟩ := hv i _ hx
    rw [e'] at e
    simp at e
    rw [e', e]
end
end Go.Ab

/- Memory: loads, stores, new blocks. -/
set_option linter.unusedVariables false
set_option linter.unusedSimpArgs false
namespace Go.Ab

def splice (xs : List Value) (off : Nat) (vs : List Value) : List Value :=
  match vs with
  | [v] => xs.set off v
  | vs => xs.take off ++ vs ++ xs.drop (off + vs.length)
theorem splice_get {xs vs : List Value} {off : Nat} (h : off + vs.length ≤ xs.length) (i : Nat) : (splice xs off vs)[i]? = if off ≤ i ∧ i < off + vs.length then vs[i - off]? else xs[i]? := by
  unfold splice
  split
  · rename_i v
    simp at h
    rw [List.getElem?_set]
    by_cases hi : off = i
    · subst hi; simp; omega
    · rw [if_neg hi, if_neg (by simp; omega)]
  · by_cases h1 : i < off
    · rw [if_neg (by omega), List.append_assoc, List.getElem?_append_left (by simp; omega), List.getElem?_take_of_lt h1]
    · by_cases h2 : i < off + vs.length
      · rw [if_pos (by omega), List.append_assoc, List.getElem?_append_right (by simp; omega)]
        have : (xs.take off).length = off := by simp; omega
        rw [this, List.getElem?_append_left (by omega)]
      · rw [if_neg (by omega), List.getElem?_append_right (by simp; omega)]
        have : (xs.take off ++ vs).length = off + vs.length := by simp; omega
        rw [this, List.getElem?_drop]
        congr 1; omega
theorem splice_length {xs vs : List Value} {off : Nat} (h : off + vs.length ≤ xs.length) : (splice xs off vs).length = xs.length := by
  unfold splice
  split
  · simp
  · simp; omega

def aload (T : Tab) (t : TypeId) (x : Value) (G : Nat → Option Blk) : Option Value :=
  match x with
  | .pointer (some ⟨b, off, none⟩) =>
    match T.ty t, G b with
    | some i, some blk =>
      if isAggD i.desc then (if off + i.size ≤ blk.length then some (.agg ((blk.drop off).take i.size).toArray) else none)
      else blk[off]?
    | _, _ => none
  | _ => none
/-- A value that can be laid into cells. -/
def isA : Value → Bool
  | .tuple _ => false
  | _ => true
def astore (T : Tab) (t : TypeId) (x v : Value) (H : AH) : Option AH :=
  match x with
  | .pointer (some ⟨b, off, none⟩) =>
    match T.ty t, H.get b with
    | some i, some blk =>
      if decide (H.ro ≤ b) && isA v && v.cells.size == i.size && decide (off + v.cells.size ≤ blk.length) then some (H.put b (some (splice blk off v.cells.toList))) else none
    | _, _ => none
  | _ => none

theorem isA_not {v : Value} (h : isA v = true) : ∀ vs, v ≠ .tuple vs := by rintro vs rfl; simp [isA] at h

/-- What is stored, cell by cell. -/
theorem run_storeCells_row {P : Program} (B o : Nat) (t : TypeId) : ∀ (vs : List Value) (i : Nat) (w : World) (cur : Array Value), w.heap[B]? = some (.cells cur t (0, 0)) → o + i + vs.length ≤ cur.size → (∀ v ∈ vs, v.oneCell' = true) →
    ∃ (w' : World) (cur' : Array Value), (storeCells ⟨B, o, none⟩ vs i).run P w = .ok () w' ∧ w'.os = w.os ∧ w'.tape = w.tape ∧ w'.output = w.output ∧ w'.heap.size = w.heap.size ∧ (∀ k, k ≠ B → w'.heap[k]? = w.heap[k]?) ∧
      w'.heap[B]? = some (.cells cur' t (0, 0)) ∧ cur'.size = cur.size ∧ ∀ j : Nat, cur'[j]? = if o + i ≤ j ∧ j < o + i + vs.length then vs[j - (o + i)]? else cur[j]?
  | [], i, w, cur, hB, hl, hv => ⟨w, cur, by simp [storeCells], rfl, rfl, rfl, rfl, fun _ _ => rfl, hB, rfl, fun j => by rw [if_neg (by simp)]⟩
  | v :: vs, i, w, cur, hB, hl, hv => by
    simp only [List.length_cons] at hl
    have hc : w.cell? ⟨B, o + i, none⟩ = some cur[o + i] := by
      rw [cell_of_row w B (o + i) cur t (0, 0) hB, Array.getElem?_eq_getElem (by omega)]
    have hf : w.frozen? ⟨B, o + i, none⟩ = false := frozen_of_row w B (o + i) cur t hB
    have hs : (store (⟨B, o + i, none⟩ : Addr) v).run P w = .ok () (w.setCell ⟨B, o + i, none⟩ v) := by
      rw [run_store P w _ v .plain (hv v (by simp))]
      simp [stored, hc, hf]
    have hB' := heap_setCell_same w B (o + i) cur t v hB
    obtain ⟨w', cur', h1, h2, h3, h4, h5, h6, h7, h8, h9⟩ := run_storeCells_row (P := P) B o t vs (i + 1) (w.setCell ⟨B, o + i, none⟩ v) _ hB' (by simp; omega) (fun u hu => hv u (by simp [hu]))
    refine ⟨w', cur', ?_, h2, h3, h4, by rw [h5]; simp [World.setCell], fun k hk => (h6 k hk).trans (heap_setCell_other w _ k v hk), h7, by rw [h8]; simp, fun j => ?_⟩
    · simp only [storeCells, addr_add, Sem.run_bind, hs, Result.andThen_ok]
      exact h1
    · rw [h9 j]
      by_cases hj : j = o + i
      · subst hj
        rw [if_neg (by omega), if_pos (by simp)]
        simp [Array.getElem?_setIfInBounds]
        omega
      · by_cases hj2 : o + (i + 1) ≤ j ∧ j < o + (i + 1) + vs.length
        · rw [if_pos hj2, if_pos (by simp; omega)]
          have : j - (o + i) = (j - (o + (i + 1))) + 1 := by omega
          rw [this, List.getElem?_cons_succ]
        · rw [if_neg hj2, if_neg (by simp; omega)]
          simp [Array.getElem?_setIfInBounds, Ne.symm hj]

/-- A heap with one block turned. -/
def upd (G : Nat → Option Blk) (b : Nat) (x : Option Blk) : Nat → Option Blk := fun c => if c = b then x else G c
theorem AH.put_upd (H : AH) (b : Nat) (x : Option Blk) (hb : b < H.size) : (H.put b x).get = upd H.get b x := funext fun c => AH.get_put H b c x hb
theorem AH.push_upd (H : AH) (x : Blk) : (H.push x).get = upd H.get H.size (some x) := funext fun c => AH.get_push H x c

/-- What an own block is, in the world. -/
theorem InvG.row {pr : Nat → Prop} {φ : Phi} {R : Nat} {G : Nat → Option Blk} {w : World} (hI : InvG pr φ R G w) {b : Nat} {x : Blk} {p : Pl} (hb : G b = some x) (hr : R ≤ b) (hp : φ b = some p) :
    ∃ cur t, w.heap[p.B]? = some (.cells cur t (0, 0)) ∧ p.o + p.cap ≤ cur.size ∧ x.length ≤ p.cap ∧ ¬ pr p.B ∧ ∀ (i : Nat) (v : Value), x[i]? = some v → ∃ v', cur[p.o + i]? = some v' ∧ SRel φ v v' := by
  obtain ⟨hn, cur, t, h1, h2⟩ := hI.own b x p hb hr hp
  obtain ⟨p', hp', hl, hc⟩ := hI.live b x hb
  rw [hp] at hp'; cases hp'
  refine ⟨cur, t, h1, h2, hl, hn, fun i v e => ?_⟩
  obtain ⟨v', e', hs⟩ := hc i v e
  rw [cell_of_row w p.B (p.o + i) cur t (0, 0) h1] at e'
  exact ⟨v', e', hs⟩
/-- Any other live block lies elsewhere than an own one. -/
theorem InvG.else {pr : Nat → Prop} {φ : Phi} {R : Nat} {G : Nat → Option Blk} {w : World} (hI : InvG pr φ R G w) {b c : Nat} {x y : Blk} {p q : Pl} (hb : G b = some x) (hr : R ≤ b) (hp : φ b = some p) (hc : G c = some y) (hne : c ≠ b) (hq : φ c = some q) : q.B ≠ p.B :=
  fun h => hI.apart b c x p q hb hr (Ne.symm hne) (.inr (by rw [hc]; simp)) hp hq h.symm

theorem InvG.write {pr : Nat → Prop} {φ : Phi} {R : Nat} {G : Nat → Option Blk} {w w' : World} (hI : InvG pr φ R G w) {b off : Nat} {x : Blk} {p : Pl} (hb : G b = some x) (hr : R ≤ b) (hp : φ b = some p)
    {vs vs' : List Value} (hl : off + vs.length ≤ x.length) (hv : CRel φ vs vs') {cur cur' : Array Value} {t : TypeId} (hB : w.heap[p.B]? = some (.cells cur t (0, 0)))
    (hs : w'.heap.size = w.heap.size) (ho : ∀ k, k ≠ p.B → w'.heap[k]? = w.heap[k]?) (hB' : w'.heap[p.B]? = some (.cells cur' t (0, 0))) (hz : cur'.size = cur.size)
    (hg : ∀ j : Nat, cur'[j]? = if p.o + off ≤ j ∧ j < p.o + off + vs'.length then vs'[j - (p.o + off)]? else cur[j]?) : InvG pr φ R (upd G b (some (splice x off vs))) w' := by
  obtain ⟨cur0, t0, e0, e1, e2, e3, e4⟩ := hI.row hb hr hp
  rw [hB] at e0; cases e0
  refine ⟨fun c q hq => by rw [hs]; exact hI.low c q hq, fun c y hy => ?_, fun c y q hy hyr hq => ?_, fun c d y q r hy hyr hne hd hq hr' => ?_, fun k hk => by rw [hs]; exact hI.prot k hk⟩
  · unfold upd at hy
    split at hy
    · rename_i hc
      cases hy
      subst hc
      refine ⟨p, hp, by rw [splice_length hl]; exact e2, fun i v e => ?_⟩
      rw [cell_of_row w' p.B (p.o + i) cur' t (0, 0) hB', hg]
      rw [splice_get hl] at e
      split at e
      · rename_i hi
        rw [if_pos (by rw [← hv.1]; omega)]
        have : p.o + i - (p.o + off) = i - off := by omega
        rw [this]
        exact hv.2 _ v e
      · rename_i hi
        rw [if_neg (by rw [← hv.1]; omega)]
        exact e4 i v e
    · rename_i hc
      obtain ⟨q, hq, hql, hqv⟩ := hI.live c y hy
      refine ⟨q, hq, hql, fun i v e => ?_⟩
      obtain ⟨v', e', hsr⟩ := hqv i v e
      refine ⟨v', ?_, hsr⟩
      rw [← e']
      exact World.cell?_of_block (ho q.B (hI.else hb hr hp hy hc hq))
  · unfold upd at hy
    split at hy
    · rename_i hc
      cases hy
      subst hc
      rw [hp] at hq; cases hq
      exact ⟨e3, cur', t, hB', by rw [hz]; exact e1⟩
    · rename_i hc
      obtain ⟨h1, c2, t2, h2, h3⟩ := hI.own c y q hy hyr hq
      exact ⟨h1, c2, t2, by rw [ho q.B (hI.else hb hr hp hy hc hq)]; exact h2, h3⟩
  · have hd' : d < R ∨ G d ≠ none := by
      rcases hd with hd | hd
      · exact .inl hd
      · unfold upd at hd
        split at hd
        · rename_i e; subst e; exact .inr (by rw [hb]; simp)
        · exact .inr hd
    unfold upd at hy
    split at hy
    · rename_i hc
      subst hc
      exact hI.apart c d x q r hb hyr hne hd' hq hr'
    · exact hI.apart c d y q r hy hyr hne hd' hq hr'
theorem Inv.write {pr : Nat → Prop} {φ : Phi} {H : AH} {w w' : World} (hI : Inv pr φ H w) {b off : Nat} {x : Blk} {p : Pl} (hb : H.get b = some x) (hr : H.ro ≤ b) (hp : φ b = some p)
    {vs vs' : List Value} (hl : off + vs.length ≤ x.length) (hv : CRel φ vs vs') {cur cur' : Array Value} {t : TypeId} (hB : w.heap[p.B]? = some (.cells cur t (0, 0)))
    (hs : w'.heap.size = w.heap.size) (ho : ∀ k, k ≠ p.B → w'.heap[k]? = w.heap[k]?) (hB' : w'.heap[p.B]? = some (.cells cur' t (0, 0))) (hz : cur'.size = cur.size)
    (hg : ∀ j : Nat, cur'[j]? = if p.o + off ≤ j ∧ j < p.o + off + vs'.length then vs'[j - (p.o + off)]? else cur[j]?) : Inv pr φ (H.put b (some (splice x off vs))) w' :=
  ⟨by rw [AH.put_upd H b _ (AH.lt_of_get hb)]; exact hI.toInvG.write hb hr hp hl hv hB hs ho hB' hz hg, hI.dom, hI.ro, hI.rom⟩

section
variable {P : Program} {T : Tab} (hT : T.Ok P) {pr : Nat → Prop} {φ : Phi} {H H' : AH} {w : World}
include hT

/-- A read: whatever heap the world holds, if this block is in it. -/
theorem aload_runG {R : Nat} {G : Nat → Option Blk} (hI : InvG pr φ R G w) {t : TypeId} {x x' v : Value} (h : aload T t x G = some v) (hx : VRel φ x x') : ∃ v', (Instr.loadAt t x').run P w = .ok v' w ∧ ARel φ v v' := by
  unfold aload at h
  split at h
  · rename_i b off
    obtain ⟨p, hp, rfl⟩ := hx.addr_inv
    split at h
    · rename_i i blk hi hb
      obtain ⟨q, ys, hq, hcap, hc, hy⟩ := hI.cells hb
      rw [hp] at hq; cases hq
      simp only [Instr.loadAt, Instr.sureAddr, Sem.run_bind, Sem.run_pure, Result.andThen_ok, loadVar, hT.isAgg w hi]
      split at h
      · rename_i ha
        split at h
        · rename_i hl
          cases h
          have hc' := (hc.drop off).take i.size
          have hlen : ((ys.drop off).take i.size).length = i.size := by
            have := hc.1
            simp; omega
          have hrun := run_cells (P := P) w (b := p.B) (off := p.o + off) (xs := (blk.drop off).take i.size) (ys := (ys.drop off).take i.size) hc'.1 (fun j u e => by
            rw [List.getElem?_take] at e
            split at e
            · rw [List.getElem?_drop] at e
              rw [Nat.add_assoc]
              exact hy (off + j) u e
            · cases e)
          have hl2 : ((blk.drop off).take i.size).length = i.size := by rw [hc'.1]; exact hlen
          rw [hl2] at hrun
          refine ⟨.agg ((ys.drop off).take i.size).toArray, ?_, .agg (by simpa using hc')⟩
          simp [ha, hT.sizeOf w hi, hrun]
        · cases h
      · rename_i ha
        obtain ⟨v', e, hs⟩ := hc.2 off v h
        refine ⟨v', ?_, .sc hs⟩
        have := hy off v' e
        simp [ha, this]
    · cases h
  · cases h
theorem aload_run (hI : Inv pr φ H w) {t : TypeId} {x x' v : Value} (h : aload T t x H.get = some v) (hx : VRel φ x x') : ∃ v', (Instr.loadAt t x').run P w = .ok v' w ∧ ARel φ v v' :=
  aload_runG hT hI.toInvG h hx

theorem astore_run (hI : Inv pr φ H w) {t : TypeId} {x x' v v' : Value} (h : astore T t x v H = some H') (hx : VRel φ x x') (hv : VRel φ v v') : ∃ w', (Instr.storeAt t x' v').run P w = .ok () w' ∧ Inv pr φ H' w' ∧ Kept pr w w' := by
  unfold astore at h
  split at h
  · rename_i b off
    obtain ⟨p, hp, rfl⟩ := hx.addr_inv
    split at h
    · rename_i i blk hi hb
      split at h
      · rename_i hc
        simp only [Bool.and_eq_true, beq_iff_eq, decide_eq_true_eq] at hc
        obtain ⟨⟨⟨hr, ha⟩, hz⟩, hl⟩ := hc
        cases h
        have hcv := hv.cells_of (isA_not ha)
        obtain ⟨cur, t0, e0, e1, e2, e3, e4⟩ := hI.row hb hr hp
        have hlen : v'.cells.toList.length = v.cells.toList.length := hcv.1.symm
        have hl1 : v.cells.toList.length = v.cells.size := by simp
        obtain ⟨w', cur', h1, h2, h3, h4, h5, h6, h7, h8, h9⟩ := run_storeCells_row (P := P) p.B (p.o + off) t0 v'.cells.toList 0 w cur e0 (by omega) (fun u hu => by
          obtain ⟨j, hj⟩ := List.mem_iff_getElem?.1 hu
          have hj2 : j < v.cells.toList.length := by
            have := (List.getElem?_eq_some_iff.1 hj).1
            omega
          obtain ⟨u', e, hs⟩ := hcv.2 j _ (List.getElem?_eq_getElem hj2)
          rw [hj] at e; cases e
          exact hs.oneCell)
        refine ⟨w', ?_, hI.write hb hr hp (by omega) hcv e0 h5 h6 h7 h8 (by simpa using h9), ⟨h2, h3, h4, by omega, fun k hk => h6 k (fun e => e3 (e ▸ hk))⟩⟩
        have hsz : v'.cells.size = i.size := by rw [← hz, ← hl1, ← hlen]; simp
        simp [Instr.storeAt, Instr.sureAddr, storeVar, hT.sizeOf w hi, hsz, h1]
      · cases h
    · cases h
  · cases h
end
end Go.Ab

/- Memory: new blocks. -/
set_option linter.unusedVariables false
set_option linter.unusedSimpArgs false
namespace Go.Ab

theorem Phi.le_addAt {φ : Phi} {b : Nat} (h : φ b = none) (p : Pl) : φ.le (φ.add b p) := fun c q hq => by
  unfold Phi.add
  split
  · rename_i e; subst e; rw [h] at hq; cases hq
  · exact hq
theorem Inv.fresh {pr : Nat → Prop} {φ : Phi} {H : AH} {w : World} (hI : Inv pr φ H w) : φ H.size = none := by
  cases h : φ H.size with
  | none => rfl
  | some p => exact absurd (hI.dom _ p h) (Nat.lt_irrefl _)
theorem Phi.le_add {pr : Nat → Prop} {φ : Phi} {H : AH} {w : World} (hI : Inv pr φ H w) (p : Pl) : φ.le (φ.add H.size p) := Phi.le_addAt hI.fresh p
theorem Phi.add_self (φ : Phi) (b : Nat) (p : Pl) : φ.add b p b = some p := by simp [Phi.add]
theorem Phi.add_inv {φ : Phi} {b c : Nat} {p q : Pl} (h : φ.add b p c = some q) : (c = b ∧ q = p) ∨ (c ≠ b ∧ φ c = some q) := by
  unfold Phi.add at h
  split at h
  · rename_i hb; cases h; exact .inl ⟨hb, rfl⟩
  · rename_i hb; exact .inr ⟨hb, h⟩

theorem alloc_size (w : World) (o : Obj) : (w.alloc o).heap.size = w.heap.size + 1 := by simp

/-- A new block of the world; a new abstract one, at a fresh number. -/
theorem InvG.pushAt {pr : Nat → Prop} {φ : Phi} {R : Nat} {G : Nat → Option Blk} {w : World} (hI : InvG pr φ R G w) {b0 : Nat} (hf : φ b0 = none) (hR : R ≤ b0) {xs : List Value} {cs : Array Value} (t : TypeId) (h : CRel φ xs (cs.toList.take xs.length)) (hl : xs.length ≤ cs.size) :
    InvG pr (φ.add b0 ⟨w.heap.size, 0, cs.size⟩) R (upd G b0 (some xs)) (w.alloc (.cells cs t)) := by
  have hle := Phi.le_addAt hf ⟨w.heap.size, 0, cs.size⟩
  have hnew : (w.alloc (.cells cs t)).heap[w.heap.size]? = some (.cells cs t (0, 0)) := heap_alloc_new w _
  have hold : ∀ k, k < w.heap.size → (w.alloc (.cells cs t)).heap[k]? = w.heap[k]? := fun k hk => heap_alloc_old w _ hk
  have hmap : ∀ b y, upd G b0 (some xs) b = some y → b ≠ b0 → G b = some y := fun b y hy hb => by unfold upd at hy; rw [if_neg hb] at hy; exact hy
  refine ⟨fun b q hq => ?_, fun b y hy => ?_, fun b y q hy hr hq => ?_, fun b c y q r hy hyr hne hcl hq hr => ?_, fun k hk => ?_⟩
  · rcases Phi.add_inv hq with ⟨rfl, rfl⟩ | ⟨hb, hq⟩
    · simp
    · have := hI.low b q hq; simp; omega
  · by_cases hb : b = b0
    · subst hb
      have : y = xs := by unfold upd at hy; simp at hy; exact hy.symm
      subst this
      refine ⟨⟨w.heap.size, 0, cs.size⟩, Phi.add_self _ _ _, hl, fun i v e => ?_⟩
      obtain ⟨v', e', hs⟩ := h.2 i v e
      refine ⟨v', ?_, hs.mono hle⟩
      rw [cell_of_row _ w.heap.size (0 + i) cs t (0, 0) hnew, Nat.zero_add]
      have hi : i < y.length := (List.getElem?_eq_some_iff.1 e).1
      rw [List.getElem?_take_of_lt hi] at e'
      simpa using e'
    · obtain ⟨q, hq, hql, hqv⟩ := hI.live b y (hmap b y hy hb)
      refine ⟨q, hle b q hq, hql, fun i v e => ?_⟩
      obtain ⟨v', e', hs⟩ := hqv i v e
      refine ⟨v', ?_, hs.mono hle⟩
      rw [← e']
      exact World.cell?_of_block (hold q.B (hI.low b q hq))
  · rcases Phi.add_inv hq with ⟨rfl, rfl⟩ | ⟨hb, hq⟩
    · exact ⟨fun h => by have := hI.prot _ h; simp at this, cs, t, hnew, by simp⟩
    · obtain ⟨h1, cur, t2, h2, h3⟩ := hI.own b y q (hmap b y hy hb) hr hq
      exact ⟨h1, cur, t2, by rw [hold q.B (hI.low b q hq)]; exact h2, h3⟩
  · rcases Phi.add_inv hq with ⟨rfl, rfl⟩ | ⟨hb, hq2⟩
    · rcases Phi.add_inv hr with ⟨h, _⟩ | ⟨_, hr⟩
      · exact absurd h.symm hne
      · have := hI.low c r hr
        exact fun e => by simp at e; omega
    · rcases Phi.add_inv hr with ⟨rfl, rfl⟩ | ⟨hc, hr⟩
      · have := hI.low b q hq2
        exact fun e => by simp at e; omega
      · refine hI.apart b c y q r (hmap b y hy hb) hyr hne ?_ hq2 hr
        rcases hcl with h | h
        · exact .inl h
        · right; unfold upd at h; rw [if_neg hc] at h; exact h
  · have := hI.prot k hk; simp; omega
theorem Inv.push {pr : Nat → Prop} {φ : Phi} {H : AH} {w : World} (hI : Inv pr φ H w) {xs : List Value} {cs : Array Value} (t : TypeId) (h : CRel φ xs (cs.toList.take xs.length)) (hl : xs.length ≤ cs.size) :
    Inv pr (φ.add H.size ⟨w.heap.size, 0, cs.size⟩) (H.push xs) (w.alloc (.cells cs t)) :=
  ⟨by rw [AH.push_upd]; exact hI.toInvG.pushAt hI.fresh hI.ro t h hl, fun b q hq => by
    rcases Phi.add_inv hq with ⟨rfl, _⟩ | ⟨_, hq⟩
    · simp
    · have := hI.dom b q hq; simp; omega, Nat.le_succ_of_le hI.ro, fun c hc => let ⟨q, h⟩ := hI.rom c hc; ⟨q, Phi.le_add hI _ _ _ h⟩⟩

theorem InvG.keptAlloc {pr : Nat → Prop} {φ : Phi} {R : Nat} {G : Nat → Option Blk} {w : World} (hI : InvG pr φ R G w) (o : Obj) : Kept pr w (w.alloc o) :=
  ⟨rfl, rfl, rfl, by simp, fun k hk => heap_alloc_old w o (hI.prot k hk)⟩
theorem Kept.alloc {pr : Nat → Prop} {φ : Phi} {H : AH} {w : World} (hI : Inv pr φ H w) (o : Obj) : Kept pr w (w.alloc o) := hI.toInvG.keptAlloc o

/-- What an operation that makes, reads or writes leaves. -/
def Left (pr : Nat → Prop) (φ : Phi) (H' : AH) (w : World) (v : Value) (v' : Value) (w' : World) : Prop :=
  ∃ φ', φ.le φ' ∧ VRel φ' v v' ∧ Inv pr φ' H' w' ∧ Kept pr w w'
/-- An operation that makes one block, and reads and writes none. -/
def News (P : Program) (φ : Phi) (id : Nat) (xs : List Value) (w : World) (v : Value) (s : Sem Value) : Prop :=
  ∃ (cs : Array Value) (t : TypeId) (v' : Value), s.run P w = .ok v' (w.alloc (.cells cs t)) ∧ CRel φ xs (cs.toList.take xs.length) ∧ xs.length ≤ cs.size ∧
    ∀ φ2 : Phi, φ2 id = some ⟨w.heap.size, 0, cs.size⟩ → VRel φ2 v v'
theorem News.left {P : Program} {pr : Nat → Prop} {φ : Phi} {H : AH} {w : World} {xs : List Value} {v : Value} {s : Sem Value} (hI : Inv pr φ H w) (h : News P φ H.size xs w v s) : ∃ v' w', s.run P w = .ok v' w' ∧ Left pr φ (H.push xs) w v v' w' := by
  obtain ⟨cs, t, v', hr, hc, hl, hv⟩ := h
  exact ⟨v', _, hr, _, Phi.le_add hI _, hv _ (Phi.add_self _ _ _), hI.push t hc hl, Kept.alloc hI _⟩

def abox (x : Value) (n : Nat) : Option (Value × List Value) :=
  if isA x then some (.pointer (some ⟨n, 0, none⟩), x.cells.toList) else none
def aalloc (T : Tab) (t : TypeId) (n : Nat) : Option (Value × List Value) :=
  match T.ty t with
  | some i => some (.pointer (some ⟨n, 0, none⟩), i.zero.cells.toList)
  | none => none
/-- Zero cells for n elements. -/
def azeros (zero : List Value) : Nat → List Value
  | 0 => []
  | n + 1 => zero ++ azeros zero n
def abuildSlice (T : Tab) (t : TypeId) (n : Nat) (ps : List (Nat × Value)) (id : Nat) : Option (Value × List Value) :=
  match T.ty t with
  | some { desc := .slice e, .. } =>
    match T.ty e with
    | some k =>
      if k.size = 0 ∨ n * k.size > 16777216 ∨ k.zero.cells.size ≠ k.size then none else
      match Instr.fill (fun i => some (i * k.size, k.size)) (azeros k.zero.cells.toList n).toArray ps with
      | some cs => if cs.size = n * k.size then some (.slice (some ⟨id, 0, none⟩) n k.size, cs.toList) else none
      | none => none
    | none => none
  | _ => none
def amake (T : Tab) (t : TypeId) (l c : Value) (id : Nat) : Option (Value × List Value) :=
  match T.ty t, l, c with
  | some { desc := .slice e, .. }, .int .i64 n, .int .i64 m =>
    match T.ty e with
    | some k =>
      if k.size = 0 ∨ k.zero.cells.size ≠ k.size then none else
      if n = m ∧ 0 ≤ n ∧ n ≤ 9223372036854775807 ∧ (k.bytes : Int) * n ≤ 281474976710656 then some (.slice (some ⟨id, 0, none⟩) n.toNat k.size, azeros k.zero.cells.toList n.toNat) else none
    | none => none
  | _, _, _ => none

theorem azeros_length (z : List Value) (n : Nat) : (azeros z n).length = n * z.length := by
  induction n with
  | zero => simp [azeros]
  | succ n ih => simp [azeros, ih, Nat.succ_mul, Nat.add_comm]
theorem azeros_get (z : List Value) (hz : 0 < z.length) : ∀ (n i : Nat), i < n * z.length → (azeros z n)[i]? = z[i % z.length]?
  | 0, i, h => by simp at h
  | n + 1, i, h => by
    simp only [azeros]
    by_cases hi : i < z.length
    · rw [List.getElem?_append_left hi, Nat.mod_eq_of_lt hi]
    · rw [List.getElem?_append_right (by omega), azeros_get z hz n (i - z.length) (by rw [Nat.succ_mul] at h; omega)]
      congr 1
      exact (Nat.mod_eq_sub_mod (by omega)).symm
theorem range0 (f : Nat → Value) : (Array.range 0).map f = #[] := by simp
theorem azeros_range (z : Array Value) (hz : 0 < z.size) (n : Nat) : (Array.range (n * z.size)).map (fun j => z[j % z.size]!) = (azeros z.toList n).toArray := by
  apply Array.ext_getElem?
  intro i
  by_cases hi : i < n * z.size
  · have h1 : i % z.size < z.size := Nat.mod_lt _ hz
    have := azeros_get z.toList (by simpa using hz) n i (by simpa using hi)
    simp only [Array.length_toList] at this
    simp [hi, this, Array.getElem?_range, getElem!_pos, h1]
  · have h1 : (azeros z.toList n).length = n * z.size := by rw [azeros_length]; simp
    rw [Array.getElem?_eq_none (by simp; omega), Array.getElem?_eq_none (by simp [h1]; omega)]
theorem azeros_rel {φ : Phi} {z : Value} (h : closedA z = true) (n : Nat) : CRel φ (azeros z.cells.toList n) (azeros z.cells.toList n) := by
  induction n with
  | zero => exact CRel.nil φ
  | succ n ih => exact CRel.append (ARel.closed φ h).cells ih
theorem CRel.whole {φ : Phi} {xs : List Value} {cs : Array Value} (h : CRel φ xs cs.toList) : CRel φ xs (cs.toList.take xs.length) ∧ xs.length ≤ cs.size := by
  have hl : xs.length = cs.toList.length := h.1
  have e : cs.toList.take xs.length = cs.toList := List.take_of_length_le (by omega)
  exact ⟨by rw [e]; exact h, by simp at hl; omega⟩
theorem fill_size (place : Nat → Option (Nat × Nat)) : ∀ (ps : List (Nat × Value)) (cs r : Array Value), Instr.fill place cs ps = some r → r.size = cs.size
  | [], cs, r, h => by simp [Instr.fill] at h; rw [h]
  | (i, v) :: ps, cs, r, h => by
    simp only [Instr.fill] at h
    split at h
    · cases h
    · split at h
      · cases h
      · rw [fill_size place ps _ r h, ← Array.foldl_toList]
        generalize v.cells.zipIdx.toList = l
        rename_i hcond
        clear h hcond
        induction l generalizing cs with
        | nil => rfl
        | cons q l ih => simp only [List.foldl_cons]; rw [ih]; simp

section
variable {P : Program} {T : Tab} (hT : T.Ok P) {φ : Phi} {w : World} {id : Nat} {xs : List Value}

theorem abox_run {t : TypeId} {x x' v : Value} (h : abox x id = some (v, xs)) (hx : VRel φ x x') : News P φ id xs w v (Instr.box t x') := by
  unfold abox at h
  split at h
  · rename_i ha
    cases h
    have hc := (hx.cells_of (isA_not ha)).whole
    exact ⟨x'.cells, t, .pointer (some ⟨w.heap.size, 0, none⟩), by simp [Instr.box, newVar, newRow], hc.1, hc.2, fun φ2 h2 => .sc (.ptr (.ptr (p := ⟨w.heap.size, 0, x'.cells.size⟩) h2))⟩
  · cases h
include hT
theorem aalloc_run {t : TypeId} {v : Value} (h : aalloc T t id = some (v, xs)) : News P φ id xs w v (Instr.alloc t true (.tuple #[])) := by
  unfold aalloc at h
  split at h
  · rename_i i hi
    cases h
    have hc := (ARel.closed φ (hT.zero t i hi)).cells.whole
    exact ⟨i.zero.cells, t, .pointer (some ⟨w.heap.size, 0, none⟩), by simp [Instr.alloc, newVar, newRow, hT.zeroV w hi], hc.1, hc.2, fun φ2 h2 => .sc (.ptr (.ptr (p := ⟨w.heap.size, 0, i.zero.cells.size⟩) h2))⟩
  · cases h
theorem abuildSlice_run {t : TypeId} {n : Nat} {ps ps' : List (Nat × Value)} {v : Value} (h : abuildSlice T t n ps id = some (v, xs)) (hp : PartsRel φ ps ps') : News P φ id xs w v (Instr.buildSlice t n ps'.toArray) := by
  unfold abuildSlice at h
  split at h
  · rename_i e _ _ _ _ ht
    split at h
    · rename_i k hk
      split at h
      · cases h
      · rename_i hb
        simp only [not_or, Decidable.not_not] at hb
        obtain ⟨hz, hn, hzs⟩ := hb
        split at h
        · rename_i cs hf
          split at h
          · rename_i hcs
            cases h
            obtain ⟨cs', hf', hc⟩ := fill_rel (φ := φ) _ (fun i => some (i * k.size, k.size)) (fun i q hq => hq) ps ps' _ _ cs hp (azeros_rel (φ := φ) (hT.zero e k hk) n) hf
            have hcw := hc.whole
            have hsz : cs'.size = n * k.size := by have := hc.1; simp at this; omega
            refine ⟨cs', e, .slice (some ⟨w.heap.size, 0, none⟩) n n, ?_, hcw.1, hcw.2, fun φ2 h2 => ?_⟩
            · have hr : (Array.range (n * k.size)).map (fun j => k.zero.cells[j % k.zero.cells.size]!) = (azeros k.zero.cells.toList n).toArray := by
                rw [← hzs]; exact azeros_range _ (by omega) n
              unfold Instr.buildSlice
              simp only [Sem.run_bind, hT.und w ht, Result.andThen_ok, hT.sizeOf w hk]
              rw [if_neg (by simpa using hn)]
              by_cases h0 : n * k.size = 0
              · have hn0 : n = 0 := by
                  rcases Nat.mul_eq_zero.1 h0 with h | h
                  · exact h
                  · omega
                subst hn0
                simp only [azeros] at hf'
                simp [range0, hf', newRow]
              · simp [h0, hT.zeroV w hk, hr, hf', newRow]
            · have hnl : n ≤ 9223372036854775807 := by
                have : n ≤ n * k.size := Nat.le_mul_of_pos_right n (by omega)
                omega
              have := VRel.sc (SRel.sl (φ := φ2) (b := id) (off := 0) (len := n) (sz := k.size) (cap := n) (p := ⟨w.heap.size, 0, cs'.size⟩) h2 (Nat.le_refl _) hnl (by omega) (by simp [hsz]))
              simpa using this
          · cases h
        · cases h
    · cases h
  · cases h
theorem amake_run {t : TypeId} {l c l' c' v : Value} (h : amake T t l c id = some (v, xs)) (hl : VRel φ l l') (hc : VRel φ c c') : News P φ id xs w v (Instr.makeSlice t l' c') := by
  unfold amake at h
  split at h
  · rename_i e _ _ _ _ n m ht
    rw [hl.int_inv, hc.int_inv]
    split at h
    · rename_i k hk
      split at h
      · cases h
      · rename_i hb
        simp only [not_or, Decidable.not_not] at hb
        obtain ⟨hz, hzs⟩ := hb
        split at h
        · rename_i hn
          obtain ⟨rfl, h0, h1, h2⟩ := hn
          cases h
          obtain ⟨N, rfl⟩ := Int.eq_ofNat_of_zero_le h0
          have hcl := azeros_rel (φ := φ) (hT.zero e k hk) N
          have hcw := CRel.whole (cs := (azeros k.zero.cells.toList N).toArray) (by simpa using hcl)
          have hsz : (azeros k.zero.cells.toList N).length = N * k.size := by rw [azeros_length]; simp [hzs]
          refine ⟨(azeros k.zero.cells.toList N).toArray, e, .slice (some ⟨w.heap.size, 0, none⟩) N N, ?_, hcw.1, hcw.2, fun φ2 hφ => ?_⟩
          · obtain ⟨_, inf, i1, i2, i3, i4⟩ := hT.ty e k hk
            have hw : IntKind.i64.wrap (N : Int) = N := by
              unfold IntKind.wrap IntKind.bits IntKind.signed
              simp
              omega
            unfold Instr.makeSlice
            simp only [Sem.run_bind, hT.und w ht, Result.andThen_ok, asInt, asIntOf, Sem.run_pure, typeInfo, run_program, i1]
            have hr : (Array.range (N * k.size)).map (fun j => k.zero.cells[j % k.zero.cells.size]!) = (azeros k.zero.cells.toList N).toArray := by
              rw [← hzs]; exact azeros_range _ (by omega) N
            have hb1 : ¬ ((k.bytes : Int) * N > 281474976710656) := by omega
            have hN : ¬ ((N : Int) < 0) := by omega
            simp [hw, i3, hb1, hN, hT.sizeOf w hk]
            by_cases hq : N * k.size = 0
            · have hn0 : N = 0 := by
                rcases Nat.mul_eq_zero.1 hq with h | h
                · exact h
                · omega
              subst hn0
              simp [azeros, newRow, range0]
            · have hN0 : N ≠ 0 := by rintro rfl; simp at hq
              simp [hq, hN0, hz, hT.zeroV w hk, newRow, hr]
          · have := VRel.sc (SRel.sl (φ := φ2) (b := id) (off := 0) (len := N) (sz := k.size) (cap := N) (p := ⟨w.heap.size, 0, (azeros k.zero.cells.toList N).toArray.size⟩) hφ (Nat.le_refl _) (by omega) (by omega) (by simp [hsz]))
            simpa using this
        · cases h
    · cases h
  · cases h
end
end Go.Ab

/- append, copy, clear. -/
set_option linter.unusedVariables false
set_option linter.unusedSimpArgs false
namespace Go.Ab

/-- The first n elements (of so many cells) of a slice or a string, as cells. -/
def afirst (sz n : Nat) (x : Value) (H : AH) : Option (List Value) :=
  match x with
  | .slice none _ _ => some []
  | .slice (some ad) l _ =>
    if n * sz = 0 then some [] else
    if ad.spot.isSome then none else
    match H.get ad.block with
    | some blk => if ad.off + n * sz ≤ blk.length ∧ n ≤ l then some ((blk.drop ad.off).take (n * sz)) else none
    | none => none
  | .string s => if s.size < n then none else some ((s.extract 0 n).data.toList.map fun b => .int .u8 b.toNat)
  | _ => none
def alenOf : Value → Option Nat
  | .slice _ n _ => some n
  | .string s => some s.size
  | _ => none
def aappend (T : Tab) (t0 t1 : TypeId) (s x : Value) (H : AH) : Option (Value × AH) :=
  match T.ty t0, T.ty t1 with
  | some { desc := .slice e, .. }, some i1 =>
    match T.ty e with
    | none => none
    | some k =>
      if k.size = 0 ∨ k.zero.cells.size ≠ k.size ∨ k.bytes = 0 then none else
      match i1.desc with
      | .int _ => none
      | _ =>
      match alenOf x with
      | none => none
      | some n =>
        match afirst k.size n x H with
        | none => none
        | some ys =>
          if ys.length ≠ n * k.size then none else
          match s with
          | .slice none 0 0 =>
            if n = 0 then some (s, H)
            else if n * k.bytes ≤ 140737488355328 then some (.slice (some ⟨H.size, 0, none⟩) n k.size, H.push ys) else none
          | .slice (some ⟨b, off, none⟩) len sz =>
            if n = 0 then some (s, H)
            else if sz ≠ k.size then none else
            match H.get b with
            | some blk =>
              if H.ro ≤ b ∧ off + len * sz ≤ blk.length ∧ (len + n) * k.bytes ≤ 140737488355328 then
                some (.slice (some ⟨H.size, 0, none⟩) (len + n) sz, (H.put b none).push ((blk.drop off).take (len * sz) ++ ys))
              else none
            | none => none
          | _ => none
  | _, _ => none

section
variable {P : Program} {pr : Nat → Prop} {φ : Phi} {H H' : AH} {w : World} (hI : Inv pr φ H w)
include hI

theorem afirst_run {sz n : Nat} {x x' : Value} {ys : List Value} (h : afirst sz n x H = some ys) (hx : VRel φ x x') : ∃ ys', (Builtin.firstCells sz n x').run P w = .ok ys'.toArray w ∧ CRel φ ys ys' := by
  unfold afirst at h
  split at h
  · cases h
    obtain ⟨_, _, rfl⟩ := hx.snil_inv
    exact ⟨[], by simp [Builtin.firstCells], CRel.nil φ⟩
  · rename_i ad _ _
    split at h
    · rename_i h0
      cases h
      obtain ⟨a', c', rfl, ha⟩ := (hx.toA (by simp)).slice_any
      cases a' with
      | none => simp at ha
      | some a' => exact ⟨[], by simp [Builtin.firstCells, h0, loadCells, loadCellsFrom], CRel.nil φ⟩
    · rename_i h0
      split at h
      · cases h
      rename_i hspot
      obtain ⟨b, off, spot⟩ := ad
      have hsp : spot = none := by cases spot <;> simp at hspot ⊢
      subst hsp
      simp only at h
      split at h
      · rename_i blk hb
        split at h
        · rename_i hl
          obtain ⟨hl, hnl⟩ := hl
          cases h
          obtain ⟨q, zs, hq, hcap, hc, hy⟩ := hI.cells hb
          cases hx.slice_inv with
          | ptr h => cases h
          | @sl _ _ _ _ cap p h h1 h2 h3 h4 =>
            rw [hq] at h; cases h
            have hc' := (hc.drop off).take (n * sz)
            have hl2 : ((blk.drop off).take (n * sz)).length = n * sz := by simp; omega
            have hrun := run_cells (P := P) w (b := q.B) (off := q.o + off) (xs := (blk.drop off).take (n * sz)) (ys := (zs.drop off).take (n * sz)) hc'.1 (fun j u e => by
              rw [List.getElem?_take] at e
              split at e
              · rw [List.getElem?_drop] at e
                rw [Nat.add_assoc]
                exact hy (off + j) u e
              · cases e)
            rw [hl2] at hrun
            exact ⟨_, by simp [Builtin.firstCells, hrun], hc'⟩
          | sl0 h0' a =>
            exfalso
            have : n = 0 := by omega
            subst this
            simp at h0
        · cases h
      · cases h
  · split at h
    · cases h
    cases h
    rw [hx.string_inv]
    rename_i s _
    refine ⟨(s.extract 0 n).data.toList.map fun b => .int .u8 b.toNat, ?_, rfl, fun i v e => ⟨v, e, ?_⟩⟩
    · rw [← List.map_toArray]
      simp only [Builtin.firstCells, Sem.run_pure, Array.toArray_toList]
    rw [List.getElem?_map] at e
    obtain ⟨u, hu, rfl⟩ := Option.map_eq_some_iff.1 e
    exact .int _ _
  · cases h

omit hI in
theorem InvG.kill {R : Nat} {G : Nat → Option Blk} (hI : InvG pr φ R G w) {b : Nat} (hR : R ≤ b) : InvG pr φ R (upd G b none) w := by
  refine ⟨hI.low, fun c y hy => ?_, fun c y q hy => ?_, fun c d y q r hy hyr hne hd => ?_, hI.prot⟩
  · unfold upd at hy; split at hy
    · cases hy
    · exact hI.live c y hy
  · unfold upd at hy; split at hy
    · cases hy
    · exact hI.own c y q hy
  · unfold upd at hy hd; split at hy
    · cases hy
    · refine hI.apart c d y q r hy hyr hne ?_
      rcases hd with hd | hd
      · exact .inl hd
      · split at hd
        · exact absurd rfl hd
        · exact .inr hd
theorem Inv.kill {b : Nat} (hb : b < H.size) (hR : H.ro ≤ b) : Inv pr φ (H.put b none) w := ⟨by rw [AH.put_upd H b _ hb]; exact hI.toInvG.kill hR, hI.dom, hI.ro, hI.rom⟩

/-- What lies in an own block goes on in a new abstract one. -/
theorem Inv.move {b off : Nat} {x : Blk} {p : Pl} (hb : H.get b = some x) (hr : H.ro ≤ b) (hp : φ b = some p) {xs vs' : List Value} {o2 : Nat} (ho2 : off + o2 ≤ x.length) (hx : xs.take o2 = (x.drop off).take o2)
    {vs : List Value} (hxs : xs.drop o2 = vs) (hv : CRel φ vs vs') (ho3 : o2 ≤ xs.length) {cur cur' : Array Value} {t : TypeId} {w' : World} (hB : w.heap[p.B]? = some (.cells cur t (0, 0)))
    (hs : w'.heap.size = w.heap.size) (ho : ∀ k, k ≠ p.B → w'.heap[k]? = w.heap[k]?) (hB' : w'.heap[p.B]? = some (.cells cur' t (0, 0))) (hz : cur'.size = cur.size)
    (hg : ∀ j : Nat, cur'[j]? = if p.o + off + o2 ≤ j ∧ j < p.o + off + o2 + vs'.length then vs'[j - (p.o + off + o2)]? else cur[j]?) (hcap : off + o2 + vs.length ≤ p.cap) :
    Inv pr (φ.add H.size ⟨p.B, p.o + off, p.cap - off⟩) ((H.put b none).push xs) w' := by
  have hlt := AH.lt_of_get hb
  have hle : φ.le (φ.add H.size ⟨p.B, p.o + off, p.cap - off⟩) := Phi.le_add hI _
  obtain ⟨cur0, t0, e0, e1, e2, e3, e4⟩ := hI.row hb hr hp
  rw [hB] at e0; cases e0
  have hxl : xs.length = o2 + vs.length := by rw [← hxs]; simp; omega
  have hro := hI.ro
  have hG : ((H.put b none).push xs).get = upd (upd H.get b none) H.size (some xs) := by rw [AH.push_upd, AH.put_upd H b _ hlt]; rfl
  have hget : ∀ c y, upd (upd H.get b none) H.size (some xs) c = some y → (c = H.size ∧ y = xs) ∨ (c ≠ H.size ∧ c ≠ b ∧ H.get c = some y) := fun c y hy => by
    unfold upd at hy
    split at hy
    · rename_i hc; cases hy; exact .inl ⟨hc, rfl⟩
    · rename_i hc
      split at hy
      · cases hy
      · rename_i hcb; exact .inr ⟨hc, hcb, hy⟩
  refine ⟨?_, fun c q hq => ?_, Nat.le_succ_of_le hro, fun c hc => let ⟨q, h⟩ := hI.rom c hc; ⟨q, hle _ _ h⟩⟩
  · rw [hG]
    refine ⟨fun c q hq => ?_, fun c y hy => ?_, fun c y q hy hyr hq => ?_, fun c d y q r hy hyr hne hd hq hr2 => ?_, fun k hk => by rw [hs]; exact hI.prot k hk⟩
    · rw [hs]
      rcases Phi.add_inv hq with ⟨rfl, rfl⟩ | ⟨hc, hq⟩
      · exact hI.low b p hp
      · exact hI.low c q hq
    · rcases hget c y hy with ⟨rfl, rfl⟩ | ⟨hc, hcb, hy⟩
      · refine ⟨⟨p.B, p.o + off, p.cap - off⟩, Phi.add_self _ _ _, by simp only; omega, fun i v e => ?_⟩
        rw [cell_of_row w' p.B (p.o + off + i) cur' t (0, 0) hB', hg]
        by_cases hi : i < o2
        · rw [if_neg (by omega)]
          have e' : ((x.drop off).take o2)[i]? = some v := by rw [← hx, List.getElem?_take_of_lt hi]; exact e
          rw [List.getElem?_take_of_lt hi, List.getElem?_drop] at e'
          obtain ⟨v', a1, a2⟩ := e4 (off + i) v e'
          exact ⟨v', by rw [Nat.add_assoc]; exact a1, a2.mono hle⟩
        · have hil : i < y.length := (List.getElem?_eq_some_iff.1 e).1
          have e' : vs[i - o2]? = some v := by
            rw [← hxs, List.getElem?_drop]
            have : o2 + (i - o2) = i := by omega
            rw [this]; exact e
          obtain ⟨v', a1, a2⟩ := hv.2 _ v e'
          refine ⟨v', ?_, a2.mono hle⟩
          rw [if_pos (by rw [← hv.1]; omega)]
          have : p.o + off + i - (p.o + off + o2) = i - o2 := by omega
          rw [this]; exact a1
      · obtain ⟨q, hq, hql, hqv⟩ := hI.live c y hy
        refine ⟨q, hle c q hq, hql, fun i v e => ?_⟩
        obtain ⟨v', e', hsr⟩ := hqv i v e
        refine ⟨v', ?_, hsr.mono hle⟩
        rw [← e']
        exact World.cell?_of_block (ho q.B (hI.else hb hr hp hy hcb hq))
    · rcases hget c y hy with ⟨rfl, rfl⟩ | ⟨hc, hcb, hy⟩
      · rcases Phi.add_inv hq with ⟨_, rfl⟩ | ⟨h, _⟩
        · exact ⟨e3, cur', t, hB', by simp only; omega⟩
        · exact absurd rfl h
      · rcases Phi.add_inv hq with ⟨h, _⟩ | ⟨_, hq⟩
        · exact absurd h hc
        · obtain ⟨h1, c2, t2, h2, h3⟩ := hI.own c y q hy hyr hq
          exact ⟨h1, c2, t2, by rw [ho q.B (hI.else hb hr hp hy hcb hq)]; exact h2, h3⟩
    · have hdd : d = H.size ∨ (d ≠ H.size ∧ (d < H.ro ∨ (d ≠ b ∧ H.get d ≠ none))) := by
        by_cases hds : d = H.size
        · exact .inl hds
        · refine .inr ⟨hds, ?_⟩
          rcases hd with hd | hd
          · exact .inl hd
          · unfold upd at hd
            rw [if_neg hds] at hd
            split at hd
            · exact absurd rfl hd
            · rename_i hdb; exact .inr ⟨hdb, hd⟩
      rcases hget c y hy with ⟨rfl, rfl⟩ | ⟨hc, hcb, hy⟩
      · rcases Phi.add_inv hq with ⟨_, rfl⟩ | ⟨h, _⟩
        · rcases hdd with rfl | ⟨hds, hd⟩
          · exact absurd rfl hne
          · rcases Phi.add_inv hr2 with ⟨h, _⟩ | ⟨_, hr2⟩
            · exact absurd h hds
            · refine hI.apart b d x p r hb hr ?_ (hd.imp id (·.2)) hp hr2
              rcases hd with hd | hd
              · omega
              · exact Ne.symm hd.1
        · exact absurd rfl h
      · rcases Phi.add_inv hq with ⟨h, _⟩ | ⟨_, hq⟩
        · exact absurd h hc
        · rcases hdd with rfl | ⟨hds, hd⟩
          · rcases Phi.add_inv hr2 with ⟨_, rfl⟩ | ⟨h, _⟩
            · have := hI.else hb hr hp hy hcb hq
              exact this
            · exact absurd rfl h
          · rcases Phi.add_inv hr2 with ⟨h, _⟩ | ⟨_, hr2⟩
            · exact absurd h hds
            · exact hI.apart c d y q r hy hyr hne (hd.imp id (·.2)) hq hr2
  · rcases Phi.add_inv hq with ⟨rfl, rfl⟩ | ⟨hc, hq⟩
    · simp
    · have := hI.dom c q hq; simp; omega
end
end Go.Ab

/- append, run. -/
set_option linter.unusedVariables false
set_option linter.unusedSimpArgs false
namespace Go.Ab

theorem Inv.drew' {pr : Nat → Prop} {φ : Phi} {H : AH} {w : World} (h : Inv pr φ H w) : Inv pr φ H w.drew := h.drew
theorem Kept.drew' (pr : Nat → Prop) (w : World) : Kept pr w w.drew := Kept.drew pr w

theorem appendCap_forced (need old : Nat) (e : TypeId) : (Question.appendCap need old e).forced = false := rfl

section
variable {P : Program} {T : Tab} (hT : T.Ok P) {pr : Nat → Prop} {φ : Phi} {H H' : AH} {w : World}
include hT

/-- Whatever is appended to: a new row, of some capacity. -/
theorem grow_run {t0 t1 e ty : TypeId} {i0 i1 k : TI} (h0 : T.ty t0 = some i0) (hd0 : i0.desc = .slice e) (h1 : T.ty t1 = some i1) (hd1 : ∀ q, i1.desc ≠ .int q) (hk : T.ty e = some k) (hz : k.size ≠ 0) (hzs : k.zero.cells.size = k.size)
    {base : Option Addr} {len cap n : Nat} {x' : Value} (hn : (Builtin.lenOf x').run P w = .ok n w) (hcap : cap < len + n) (hby : (len + n) * k.bytes ≤ 140737488355328) {old new : List Value}
    (ho : (Builtin.firstCells k.size len (.slice base len cap)).run P w.drew = .ok old.toArray w.drew) (hnw : (Builtin.firstCells k.size n x').run P w.drew = .ok new.toArray w.drew)
    (hol : old.length = len * k.size) (hnl : new.length = n * k.size) (hlm : len + n < 9223372036854775808) :
    ∃ (C : Nat) (cs : Array Value), (Builtin.append_ #[t0, t1] ty #[.slice base len cap, x']).run P w = .ok (.slice (some ⟨w.heap.size, 0, none⟩) (len + n) C) (w.drew.alloc (.cells cs e)) ∧ len + n ≤ C ∧ C < 9223372036854775808 ∧
      cs.size = C * k.size ∧ cs.toList.take ((len + n) * k.size) = old ++ new := by
  obtain ⟨_, inf, j1, j2, j3, j4⟩ := hT.ty e k hk
  have hg := growslice_fits (need := len + n) (old := cap) (bytes := k.bytes) hcap hby
  let C := (Question.appendCap (len + n) cap e).cut (w.tape w.drawn (Question.appendCap (len + n) cap e))
  have hC : len + n ≤ C ∧ C < 9223372036854775808 := by
    simp only [C, Question.cut]
    have : 0 < 2 ^ 63 - (len + n) := by omega
    have := Nat.mod_lt (w.tape w.drawn (Question.appendCap (len + n) cap e)) this
    omega
  have hzc : Builtin.zeroCells k.zero.cells (C - (len + n)) = (azeros k.zero.cells.toList (C - (len + n))).toArray := azeros_range _ (by omega) _
  have hzl : (azeros k.zero.cells.toList (C - (len + n))).length = (C - (len + n)) * k.size := by rw [azeros_length]; simp [hzs]
  refine ⟨C, (old ++ new ++ azeros k.zero.cells.toList (C - (len + n))).toArray, ?_, hC.1, hC.2, ?_, ?_⟩
  · have hzero : (match i1.desc with | .int _ => true | _ => false) = false := by
      cases hi : i1.desc <;> first | rfl | exact absurd hi (hd1 _)
    unfold Builtin.append_
    simp only [List.getElem?_toArray, List.getElem?_cons_zero, List.getElem?_cons_succ, Sem.run_bind, hT.und w h0, hd0, Result.andThen_ok, hT.sizeOf w hk, hT.und w h1, Sem.run_pure, hzero]
    simp only [Bool.false_eq_true, if_false, Bool.not_false, if_true]
    rw [Sem.run_bind, hn, Result.andThen_ok, Sem.run_ite, if_neg (by omega)]
    have hti : ∀ w0 : World, (typeInfo e).run P w0 = .ok inf w0 := fun w0 => by simp [typeInfo, j1]
    rw [Sem.run_bind, hti, Result.andThen_ok, Sem.run_ite, if_neg (by
      rintro ⟨h, h'⟩
      simp [IntKind.max, IntKind.bits, IntKind.signed] at h; omega)]
    rw [Sem.run_bind, hti, Result.andThen_ok, Sem.run_ite, if_neg (by rw [j3]; omega)]
    simp only [Sem.run_bind, run_choose_drew, appendCap_forced, Bool.false_eq_true, if_false, Result.andThen_ok, run_askRoom, hti, ho, hnw, hT.zeroV w.drew hk]
    simp [newRow, hzc, C]
  · have e1 : C * k.size = (len + n) * k.size + (C - (len + n)) * k.size := by rw [← Nat.add_mul]; congr 1; omega
    simp [hzl, hol, hnl, Nat.add_mul] at e1 ⊢
    omega
  · have e1 : (old ++ new).length = (len + n) * k.size := by simp [hol, hnl, Nat.add_mul]
    rw [List.take_append_of_le_length (by omega), List.take_of_length_le (by omega)]

/-- There is room: laid behind what is there. -/
theorem room_run {t0 t1 e ty : TypeId} {i0 i1 k : TI} (h0 : T.ty t0 = some i0) (hd0 : i0.desc = .slice e) (h1 : T.ty t1 = some i1) (hd1 : ∀ q, i1.desc ≠ .int q) (hk : T.ty e = some k)
    {base : Option Addr} {len cap n : Nat} {x' : Value} (hn : (Builtin.lenOf x').run P w = .ok n w) (hcap : len + n ≤ cap) {new : List Value} (hnw : (Builtin.firstCells k.size n x').run P w = .ok new.toArray w) {w' : World}
    (hs : ∀ a, base = some a → (storeCells (a.add (len * k.size)) new).run P w = .ok () w') (hs0 : base = none → w' = w) :
    (Builtin.append_ #[t0, t1] ty #[.slice base len cap, x']).run P w = .ok (.slice base (len + n) cap) w' := by
  have hzero : (match i1.desc with | .int _ => true | _ => false) = false := by
    cases hi : i1.desc <;> first | rfl | exact absurd hi (hd1 _)
  unfold Builtin.append_
  simp only [List.getElem?_toArray, List.getElem?_cons_zero, List.getElem?_cons_succ, Sem.run_bind, hT.und w h0, hd0, Result.andThen_ok, hT.sizeOf w hk, hT.und w h1, Sem.run_pure, hzero]
  simp only [Bool.false_eq_true, if_false, Bool.not_false, if_true]
  rw [Sem.run_bind, hn, Result.andThen_ok, Sem.run_ite, if_pos hcap, Sem.run_bind, hnw, Result.andThen_ok]
  cases base with
  | none => rw [hs0 rfl]; simp
  | some a => simp [hs a rfl]

omit hT in
theorem lenOf_run {x x' : Value} {n : Nat} (h : alenOf x = some n) (hx : VRel φ x x') : (Builtin.lenOf x').run P w = .ok n w := by
  unfold alenOf at h
  split at h
  · cases h
    obtain ⟨a', c', rfl, _⟩ := (hx.toA (by simp)).slice_any
    simp [Builtin.lenOf]
  · cases h
    rw [hx.string_inv]
    simp [Builtin.lenOf]
  · cases h

omit hT in
theorem le_of_bytes {m b : Nat} (hb : b ≠ 0) (h : m * b ≤ 140737488355328) : m < 9223372036854775808 := by
  have : m ≤ m * b := Nat.le_mul_of_pos_right m (by omega)
  omega

theorem aappend_run (hI : Inv pr φ H w) {t0 t1 ty : TypeId} {s x s' x' v : Value} (h : aappend T t0 t1 s x H = some (v, H')) (hs : VRel φ s s') (hx : VRel φ x x') :
    ∃ v' w', (Builtin.append_ #[t0, t1] ty #[s', x']).run P w = .ok v' w' ∧ Left pr φ H' w v v' w' := by
  unfold aappend at h
  split at h
  · rename_i e _ _ _ _ i1 ht0 ht1
    split at h
    · cases h
    · rename_i k hk
      split at h
      · cases h
      · rename_i hzz
        simp only [not_or, Decidable.not_not] at hzz
        obtain ⟨hz, hzs, hby0⟩ := hzz
        split at h
        · cases h
        · rename_i hd1
          have hd1' : ∀ q, i1.desc ≠ .int q := hd1
          split at h
          · cases h
          · rename_i n hn
            have hn' := lenOf_run (P := P) (w := w) hn hx
            split at h
            · cases h
            · rename_i ys hys
              obtain ⟨ys', hyr, hyc⟩ := afirst_run (P := P) hI hys hx
              obtain ⟨yd, hyrd, hycd⟩ := afirst_run (P := P) hI.drew' hys hx
              split at h
              · cases h
              · rename_i hyl
                simp only [ne_eq, Decidable.not_not] at hyl
                have hyl' : ys'.length = n * k.size := by rw [← hyc.1]; exact hyl
                have hyld : yd.length = n * k.size := by rw [← hycd.1]; exact hyl
                split at h
                · obtain ⟨_, _, rfl⟩ := hs.snil_inv
                  split at h
                  · rename_i h0
                    subst h0
                    cases h
                    refine ⟨.slice none 0 0, w, ?_, φ, Phi.le.refl _, .sc .snil, hI, Kept.refl _ _⟩
                    exact room_run hT (w' := w) ht0 rfl ht1 hd1' hk hn' (by omega) hyr (fun a ha => by cases ha) (fun _ => rfl)
                  · rename_i h0
                    split at h
                    · rename_i hby
                      cases h
                      obtain ⟨C, cs, hrun, hC, hC2, hcs, htk⟩ := grow_run hT (w := w) (ty := ty) ht0 rfl ht1 hd1' hk hz hzs (base := none) (len := 0) (cap := 0) hn' (by omega) (by simpa using hby) (old := []) (by simp [Builtin.firstCells]) hyrd (by simp) hyld (by have := le_of_bytes hby0 hby; omega)
                      simp only [Nat.zero_add] at hrun hC htk
                      have hlen : ys.length ≤ cs.size := by rw [hcs, hyl]; exact Nat.mul_le_mul_right _ hC
                      have hpush := hI.drew'.push e (xs := ys) (cs := cs) (by rw [hyl, htk]; simpa using hycd) hlen
                      refine ⟨_, _, hrun, _, Phi.le_add hI ⟨w.heap.size, 0, cs.size⟩, ?_, hpush, (Kept.drew' pr w).trans (Kept.alloc hI.drew' _)⟩
                      have := VRel.sc (SRel.sl (φ := φ.add H.size ⟨w.heap.size, 0, cs.size⟩) (b := H.size) (off := 0) (len := n) (sz := k.size) (cap := C) (p := ⟨w.heap.size, 0, cs.size⟩) (by simp [Phi.add]) hC (by omega) (by omega) (by simp [hcs]))
                      simpa using this
                    · cases h
                · rename_i b off len sz
                  split at h
                  · rename_i h0
                    subst h0
                    cases h
                    have hys0 : ys' = [] := List.eq_nil_of_length_eq_zero (by simpa using hyl')
                    obtain ⟨a', c', rfl, ha⟩ := (hs.toA (by simp)).slice_any
                    have hlc : len ≤ c' := by
                      cases hs.slice_inv with
                      | ptr h => cases h
                      | sl h h1 h2 h3 h4 => exact h1
                      | sl0 h0' a => exact Nat.le_refl _
                    refine ⟨_, w, room_run hT (w' := w) ht0 rfl ht1 hd1' hk hn' (by simpa using hlc) hyr (fun a ha => by rw [hys0]; simp [storeCells]) (fun _ => rfl), φ, Phi.le.refl _, hs, hI, Kept.refl _ _⟩
                  · rename_i h0
                    split at h
                    · cases h
                    · rename_i hsz
                      simp only [ne_eq, Decidable.not_not] at hsz
                      subst hsz
                      split at h
                      · rename_i blk hb
                        split at h
                        · rename_i hcond
                          obtain ⟨hr, hlen, hby⟩ := hcond
                          cases h
                          have hlt := AH.lt_of_get hb
                          have hm := le_of_bytes hby0 hby
                          have hxl : ((blk.drop off).take (len * k.size)).length = len * k.size := by simp; omega
                          -- a new block, in either form of the slice
                          have newB : ∀ (base : Option Addr) (cap : Nat) (old : List Value), (Builtin.firstCells k.size len (.slice base len cap)).run P w.drew = .ok old.toArray w.drew → CRel φ ((blk.drop off).take (len * k.size)) old → cap < len + n →
                              ∃ v' w', (Builtin.append_ #[t0, t1] ty #[.slice base len cap, x']).run P w = .ok v' w' ∧ Left pr φ ((H.put b none).push ((blk.drop off).take (len * k.size) ++ ys)) w (.slice (some ⟨H.size, 0, none⟩) (len + n) k.size) v' w' := by
                            intro base cap old hold hrel hlt2
                            have holdl : old.length = len * k.size := by rw [← hrel.1]; exact hxl
                            obtain ⟨C, cs, hrun, hC, hC2, hcs, htk⟩ := grow_run hT (w := w) (ty := ty) ht0 rfl ht1 hd1' hk hz hzs (base := base) (len := len) (cap := cap) hn' hlt2 hby (old := old) hold hyrd holdl hyld hm
                            have hxs : ((blk.drop off).take (len * k.size) ++ ys).length = (len + n) * k.size := by rw [List.length_append, hxl, hyl, Nat.add_mul]
                            have hlen3 : ((blk.drop off).take (len * k.size) ++ ys).length ≤ cs.size := by rw [hcs, hxs]; exact Nat.mul_le_mul_right _ hC
                            have hkill := hI.drew'.kill hlt hr
                            have hpush := hkill.push e (xs := (blk.drop off).take (len * k.size) ++ ys) (cs := cs) (by rw [hxs, htk]; exact hrel.append hycd) hlen3
                            refine ⟨_, _, hrun, _, Phi.le_add hI ⟨w.heap.size, 0, cs.size⟩, ?_, hpush, (Kept.drew' pr w).trans (Kept.alloc hkill _)⟩
                            have := VRel.sc (SRel.sl (φ := φ.add H.size ⟨w.heap.size, 0, cs.size⟩) (b := H.size) (off := 0) (len := len + n) (sz := k.size) (cap := C) (p := ⟨w.heap.size, 0, cs.size⟩) (by simp [Phi.add]) hC (by omega) (by omega) (by simp [hcs]))
                            simpa using this
                          cases hs.slice_inv with
                          | ptr h => cases h
                          | @sl _ _ _ _ cap p hp h1 h2 h3 h4 =>
                            by_cases hroom : len + n ≤ cap
                            · obtain ⟨cur, t2, e0, e1, e2, e3, e4⟩ := hI.row hb hr hp
                              have hcm : (len + n) * k.size ≤ cap * k.size := Nat.mul_le_mul_right _ hroom
                              rw [Nat.add_mul] at hcm
                              obtain ⟨w', cur', g1, g2, g3, g4, g5, g6, g7, g8, g9⟩ := run_storeCells_row (P := P) p.B (p.o + off + len * k.size) t2 ys' 0 w cur e0 (by omega) (fun u hu => by
                                obtain ⟨j, hj⟩ := List.mem_iff_getElem?.1 hu
                                have hj2 : j < ys.length := by
                                  have := (List.getElem?_eq_some_iff.1 hj).1
                                  omega
                                obtain ⟨u', eu, hsu⟩ := hyc.2 j _ (List.getElem?_eq_getElem hj2)
                                rw [hj] at eu; cases eu
                                exact hsu.oneCell)
                              have hmove := hI.move (off := off) (o2 := len * k.size) (xs := (blk.drop off).take (len * k.size) ++ ys) (vs := ys) hb hr hp hlen (by rw [List.take_append_of_le_length (by omega), List.take_of_length_le (by omega)])
                                (by rw [List.drop_append_of_le_length (by omega), List.drop_eq_nil_of_le (by omega), List.nil_append]) hyc (by simp; omega) e0 g5 g6 g7 g8 (by simpa using g9) (by rw [hyl]; omega)
                              refine ⟨_, w', room_run hT (w' := w') ht0 rfl ht1 hd1' hk hn' hroom hyr (fun a ha => by cases ha; rw [addr_add]; exact g1) (fun h => by cases h), _, Phi.le_add hI _, ?_, hmove, ⟨g2, g3, g4, by omega, fun q hq => g6 q (fun e => e3 (e ▸ hq))⟩⟩
                              have := VRel.sc (SRel.sl (φ := φ.add H.size ⟨p.B, p.o + off, p.cap - off⟩) (b := H.size) (off := 0) (len := len + n) (sz := k.size) (cap := cap) (p := ⟨p.B, p.o + off, p.cap - off⟩) (by simp [Phi.add]) hroom (by omega) (by omega) (by simp; omega))
                              simpa using this
                            · obtain ⟨q, zs, hq, hcap, hc, hy⟩ := hI.cells hb
                              rw [hp] at hq; cases hq
                              have hc' := (hc.drop off).take (len * k.size)
                              have hrun := run_cells (P := P) w.drew (b := p.B) (off := p.o + off) (xs := (blk.drop off).take (len * k.size)) (ys := (zs.drop off).take (len * k.size)) hc'.1 (fun j u e => by
                                rw [List.getElem?_take] at e
                                split at e
                                · rw [List.getElem?_drop] at e
                                  rw [Nat.add_assoc]
                                  exact hy (off + j) u e
                                · cases e)
                              rw [hxl] at hrun
                              exact newB _ cap _ (by simp [Builtin.firstCells, hrun]) hc' (by omega)
                          | sl0 h0' a =>
                            exact newB (some a) 0 [] (by simp [Builtin.firstCells, loadCells, loadCellsFrom]) (by simpa using CRel.nil φ) (by omega)
                        · cases h
                      · cases h
                · cases h
  · cases h

def acopy (T : Tab) (t0 : TypeId) (d x : Value) (H : AH) : Option (Value × AH) :=
  match T.ty t0, d with
  | some { desc := .slice e, .. }, .slice (some ⟨b, off, none⟩) len sz =>
    match T.ty e, alenOf x with
    | some k, some m =>
      if k.size = 0 ∨ sz ≠ k.size then none else
      match afirst k.size (Nat.min m len) x H with
      | none => none
      | some ys =>
        if ys.length ≠ Nat.min m len * k.size then none else
        if Nat.min m len = 0 then some (goInt 0, H) else
        match H.get b with
        | some blk => if H.ro ≤ b ∧ off + ys.length ≤ blk.length then some (goInt (Nat.min m len), H.put b (some (splice blk off ys))) else none
        | none => none
    | _, _ => none
  | _, _ => none

theorem acopy_run (hI : Inv pr φ H w) {t0 t1 ty : TypeId} {d x d' x' v : Value} (h : acopy T t0 d x H = some (v, H')) (hd : VRel φ d d') (hx : VRel φ x x') :
    ∃ v' w', (Builtin.copy_ #[t0, t1] ty #[d', x']).run P w = .ok v' w' ∧ Left pr φ H' w v v' w' := by
  unfold acopy at h
  split at h
  · rename_i e _ _ _ _ b off len sz ht0
    split at h
    · rename_i k m hk hm
      split at h
      · cases h
      · rename_i hzz
        simp only [not_or, Decidable.not_not] at hzz
        obtain ⟨hz, rfl⟩ := hzz
        split at h
        · cases h
        · rename_i ys hys
          obtain ⟨ys', hyr, hyc⟩ := afirst_run (P := P) hI hys hx
          have hm' := lenOf_run (P := P) (w := w) hm hx
          split at h
          · cases h
          · rename_i hyl
            simp only [ne_eq, Decidable.not_not] at hyl
            obtain ⟨a', c', rfl, ha⟩ := (hd.toA (by simp)).slice_any
            have hrun0 : ∀ w' : World, (∀ a, a' = some a → (storeCells a ys').run P w = .ok () w') → a' ≠ none → (Builtin.copy_ #[t0, t1] ty #[.slice a' len c', x']).run P w = .ok (goInt (Nat.min m len)) w' := by
              intro w' hst hne
              cases a' with
              | none => exact absurd rfl hne
              | some a =>
                unfold Builtin.copy_
                simp only [List.getElem?_toArray, List.getElem?_cons_zero, List.getElem?_cons_succ, Sem.run_bind, hT.und w ht0, Result.andThen_ok, hm', hT.sizeOf w hk, hyr, hst a rfl, Sem.run_pure]
            have hne : a' ≠ none := by rintro rfl; simp at ha
            split at h
            · rename_i h0
              cases h
              have hys0 : ys' = [] := List.eq_nil_of_length_eq_zero (by rw [← hyc.1, hyl, h0]; simp)
              refine ⟨_, w, hrun0 w (fun a _ => by rw [hys0]; simp [storeCells]) hne, φ, Phi.le.refl _, ?_, hI, Kept.refl _ _⟩
              rw [h0]
              exact .sc (.int _ _)
            · rename_i h0
              split at h
              · rename_i blk hb
                split at h
                · rename_i hcond
                  obtain ⟨hr, hl⟩ := hcond
                  cases h
                  cases hd.slice_inv with
                  | ptr h => cases h
                  | @sl _ _ _ _ _ p hp h1 h2 h3 h4 =>
                    obtain ⟨cur, t2, e0, e1, e2, e3, e4⟩ := hI.row hb hr hp
                    obtain ⟨w', cur', g1, g2, g3, g4, g5, g6, g7, g8, g9⟩ := run_storeCells_row (P := P) p.B (p.o + off) t2 ys' 0 w cur e0 (by rw [← hyc.1]; omega) (fun u hu => by
                      obtain ⟨j, hj⟩ := List.mem_iff_getElem?.1 hu
                      have hj2 : j < ys.length := by
                        have := (List.getElem?_eq_some_iff.1 hj).1
                        have := hyc.1
                        omega
                      obtain ⟨u', eu, hsu⟩ := hyc.2 j _ (List.getElem?_eq_getElem hj2)
                      rw [hj] at eu; cases eu
                      exact hsu.oneCell)
                    exact ⟨_, w', hrun0 w' (fun a ha => by cases ha; exact g1) hne, φ, Phi.le.refl _, .sc (.int _ _), hI.write hb hr hp hl hyc e0 g5 g6 g7 g8 (by simpa using g9), ⟨g2, g3, g4, by omega, fun q hq => g6 q (fun e => e3 (e ▸ hq))⟩⟩
                  | sl0 h0' a => simp at h0
                · cases h
              · cases h
    · cases h
  · cases h

def aclear (T : Tab) (t0 : TypeId) (d : Value) (H : AH) : Option (Value × AH) :=
  match T.ty t0, d with
  | some { desc := .slice e, .. }, .slice none _ _ => some (.tuple #[], H)
  | some { desc := .slice e, .. }, .slice (some ⟨b, off, none⟩) len sz =>
    match T.ty e with
    | some k =>
      if k.size = 0 ∨ sz ≠ k.size ∨ k.zero.cells.size ≠ k.size then none else
      if len = 0 then some (.tuple #[], H) else
      match H.get b with
      | some blk => if H.ro ≤ b ∧ off + len * k.size ≤ blk.length then some (.tuple #[], H.put b (some (splice blk off (azeros k.zero.cells.toList len)))) else none
      | none => none
    | none => none
  | _, _ => none
omit hT in
theorem VRel.unit (φ : Phi) : VRel φ (.tuple #[]) (.tuple #[]) := .tup rfl fun i v h => by simp at h
theorem aclear_run (hI : Inv pr φ H w) {t0 ty : TypeId} {d d' v : Value} (h : aclear T t0 d H = some (v, H')) (hd : VRel φ d d') :
    ∃ v' w', (Builtin.clear_ #[t0] ty #[d']).run P w = .ok v' w' ∧ Left pr φ H' w v v' w' := by
  unfold aclear at h
  split at h
  · rename_i e _ _ _ _ _ _ ht0
    cases h
    obtain ⟨_, _, rfl⟩ := hd.snil_inv
    exact ⟨_, w, by simp [Builtin.clear_, hT.und w ht0], φ, Phi.le.refl _, VRel.unit φ, hI, Kept.refl _ _⟩
  · rename_i e _ _ _ _ b off len sz ht0
    split at h
    · rename_i k hk
      split at h
      · cases h
      · rename_i hzz
        simp only [not_or, Decidable.not_not] at hzz
        obtain ⟨hz, rfl, hzs⟩ := hzz
        split at h
        · rename_i h0
          subst h0
          cases h
          obtain ⟨a', c', rfl, ha⟩ := (hd.toA (by simp)).slice_any
          refine ⟨_, w, ?_, φ, Phi.le.refl _, VRel.unit φ, hI, Kept.refl _ _⟩
          cases a' with
          | none => simp at ha
          | some a' => simp [Builtin.clear_, hT.und w ht0]
        · rename_i h0
          split at h
          · rename_i blk hb
            split at h
            · rename_i hcond
              obtain ⟨hr, hl⟩ := hcond
              cases h
              have hzl : (azeros k.zero.cells.toList len).length = len * k.size := by rw [azeros_length]; simp [hzs]
              have hzr := azeros_rel (φ := φ) (hT.zero e k hk) len
              have hzc : Builtin.zeroCells k.zero.cells len = (azeros k.zero.cells.toList len).toArray := azeros_range _ (by omega) _
              cases hd.slice_inv with
              | ptr h => cases h
              | @sl _ _ _ _ cap p hp h1 h2 h3 h4 =>
                obtain ⟨cur, t2, e0, e1, e2, e3, e4⟩ := hI.row hb hr hp
                obtain ⟨w', cur', g1, g2, g3, g4, g5, g6, g7, g8, g9⟩ := run_storeCells_row (P := P) p.B (p.o + off) t2 (azeros k.zero.cells.toList len) 0 w cur e0 (by omega) (fun u hu => by
                  obtain ⟨j, hj⟩ := List.mem_iff_getElem?.1 hu
                  obtain ⟨u', eu, hsu⟩ := hzr.2 j _ hj
                  rw [hj] at eu; cases eu
                  exact hsu.oneCell)
                refine ⟨_, w', ?_, φ, Phi.le.refl _, VRel.unit φ, hI.write hb hr hp (by omega) hzr e0 g5 g6 g7 g8 (by simpa using g9), ⟨g2, g3, g4, by omega, fun q hq => g6 q (fun e => e3 (e ▸ hq))⟩⟩
                unfold Builtin.clear_
                simp only [List.getElem?_toArray, List.getElem?_cons_zero, Sem.run_bind, hT.und w ht0, Result.andThen_ok]
                cases len with
                | zero => exact absurd rfl h0
                | succ len => simp [hT.zeroV w hk, hzc, g1]
              | sl0 h0' a => exact absurd rfl h0
            · cases h
          · cases h
    · cases h
  · cases h
end
end Go.Ab

/- One operation. -/
set_option linter.unusedVariables false
set_option linter.unusedSimpArgs false
namespace Go.Ab

def avals (T : Tab) (a : Act) : List Operand → Option (List Value)
  | [] => some []
  | x :: xs => match aev T a x with
    | none => none
    | some v => match avals T a xs with
      | none => none
      | some vs => some (v :: vs)
def aparts (T : Tab) (a : Act) : List (Nat × Operand) → Option (List (Nat × Value))
  | [] => some []
  | (i, x) :: xs => match aev T a x with
    | none => none
    | some v => if isA v then (match aparts T a xs with
      | none => none
      | some vs => some ((i, v) :: vs)) else none
def aopt (T : Tab) (a : Act) : Option Operand → Option (Option Value)
  | none => some none
  | some x => (aev T a x).map some
def anew (H : AH) : Option (Value × List Value) → Option (Value × AH)
  | some (v, xs) => some (v, H.push xs)
  | none => none
def keep (H : AH) : Option Value → Option (Value × AH)
  | some v => some (v, H)
  | none => none

/-- What hangs on the operands alone. -/
def apureB (T : Tab) (b : Builtin) (tys : List TypeId) (vs : List Value) : Option Value :=
  match b, tys, vs with
  | .len, [t], [x] => match T.ty t, x with
    | some { desc := .string, .. }, .string s => some (goInt s.size)
    | some { desc := .slice _, .. }, .slice _ n _ => some (goInt n)
    | some { desc := .array n _, .. }, _ => some (goInt n)
    | _, _ => none
  | .max, _, .int k n :: rest => amax true (.int k n) rest
  | .min, _, .int k n :: rest => amax false (.int k n) rest
  | _, _, _ => none
def isPtr : Value → Bool
  | .pointer _ => true
  | _ => false
def apure (T : Tab) (a : Act) (op : Op) : Option Value :=
  match op with
  | .move x => aev T a x
  | .assign x => aev T a x
  | .pick c x y => match aev T a c with
    | some (.bool true) => (match aev T a y with | some _ => aev T a x | none => none)
    | some (.bool false) => (match aev T a x with | some _ => aev T a y | none => none)
    | _ => none
  | .build t ps => match aparts T a ps.toList with
    | some vs => abuild T t vs
    | none => none
  | .nilCheck x => match aev T a x with
    | some (.pointer (some p)) => some (.pointer (some p))
    | _ => none
  | .binOp op t x y _ => match aev T a x, aev T a y with
    | some u, some v => abin T op t u v
    | _, _ => none
  | .unOp op _ x => match aev T a x with
    | some v => aun op v
    | none => none
  | .convert s d x => match aev T a x with
    | some v => aconvert T s d v
    | none => none
  | .makeFunc fn first caps => match fn, avals T a caps.toList with
    | .func f, some vs => if first.size = 0 ∧ vs.all isPtr = true then some (.func (.func f) #[] vs.toArray) else none
    | _, _ => none
  | .slice t x lo hi none => match aev T a x, aopt T a lo, aopt T a hi with
    | some v, some l, some h => aslice T t v l h
    | _, _, _ => none
  | .fieldAddr t x f => match aev T a x with
    | some v => afield T t v f
    | none => none
  | .field t x f => match aev T a x with
    | some v => apick T t v f
    | none => none
  | .indexAddr t x i => match aev T a x, aev T a i with
    | some u, some v => aindex T t u v
    | _, _ => none
  | .index t x i => match T.ty t, aev T a x, aev T a i with
    | some { desc := .string, .. }, some (.string s), some (.int _ n) => if 0 ≤ n then (match s[n.toNat]? with | some b => some (.int .u8 b.toNat) | none => none) else none
    | _, _, _ => none
  | .extract x i => match aev T a x with
    | some v => aextract v i
    | none => none
  | .call { callee := .builtin b, args, argTypes } => match avals T a args.toList with
    | some vs => apureB T b argTypes.toList vs
    | none => none
  | _ => none
/-- What makes one block. -/
def amakes (T : Tab) (a : Act) (op : Op) (n : Nat) : Option (Value × List Value) :=
  match op with
  | .alloc t => aalloc T t n
  | .box _ x => match aev T a x with
    | some v => abox v n
    | none => none
  | .buildSlice t k ps => match aparts T a ps.toList with
    | some vs => abuildSlice T t k vs n
    | none => none
  | .makeSlice t l c => match aev T a l, aev T a c with
    | some u, some v => amake T t u v n
    | _, _ => none
  | _ => none
/-- What writes. -/
def aeffB (T : Tab) (b : Builtin) (tys : List TypeId) (vs : List Value) (H : AH) : Option (Value × AH) :=
  match b, tys, vs with
  | .append, [t0, t1], [s, x] => aappend T t0 t1 s x H
  | .copy, [t0, _], [d, x] => acopy T t0 d x H
  | .clear, [t], [d] => aclear T t d H
  | _, _, _ => none
def aeff (T : Tab) (a : Act) (op : Op) (H : AH) : Option (Value × AH) :=
  match op with
  | .store t x y => match aev T a x, aev T a y with
    | some u, some v => (match astore T t u v H with | some H' => some (undef, H') | none => none)
    | _, _ => none
  | .call { callee := .builtin b, args, argTypes } => match avals T a args.toList with
    | some vs => aeffB T b argTypes.toList vs H
    | none => none
  | _ => none
inductive Cls where
  | pure | load | make | eff
  deriving DecidableEq
def cls : Op → Cls
  | .load _ _ => .load
  | .alloc _ | .box _ _ | .buildSlice _ _ _ | .makeSlice _ _ _ => .make
  | .store _ _ _ => .eff
  | .call { callee := .builtin .len, .. } | .call { callee := .builtin .max, .. } | .call { callee := .builtin .min, .. } => .pure
  | .call _ => .eff
  | _ => .pure
def aread (T : Tab) (a : Act) (op : Op) (G : Nat → Option Blk) : Option Value :=
  match op with
  | .load t x => match aev T a x with
    | some v => aload T t v G
    | none => none
  | _ => none
def aop (T : Tab) (a : Act) (op : Op) (H : AH) : Option (Value × AH) :=
  match cls op with
  | .pure => keep H (apure T a op)
  | .load => keep H (aread T a op H.get)
  | .make => anew H (amakes T a op H.size)
  | .eff => aeff T a op H
/-- A call of a function: which, with what. -/
def acallee (T : Tab) (a : Act) (op : Op) : Option (FuncId × List Value) :=
  match op with
  | .call { callee := .value f, args, .. } => match aev T a f, avals T a args.toList with
    | some (.func (.func g) first caps), some vs => if first.size = 0 then some (g, vs ++ caps.toList) else none
    | _, _ => none
  | _ => none

/-- Two frames. -/
structure AR (T : Tab) (φ : Phi) (a a' : Act) : Prop where
  size : a.tmps.size = a'.tmps.size
  rel : ∀ t, VRel φ (a.tmps.getD t undef) (a'.tmps.getD t undef)
  defers : a'.defers = []
  glob : ∀ g, T.glob g = true → ∃ c, φ g = some ⟨g, 0, c⟩

theorem AR.mono {T : Tab} {φ ψ : Phi} {a a' : Act} (hl : φ.le ψ) (h : AR T φ a a') : AR T ψ a a' :=
  ⟨h.size, fun t => (h.rel t).mono hl, h.defers, fun g hg => let ⟨c, hc⟩ := h.glob g hg; ⟨c, hl _ _ hc⟩⟩
theorem AR.put {T : Tab} {φ : Phi} {a a' : Act} (h : AR T φ a a') (d : Option Tmp) {v v' : Value} (hv : VRel φ v v') : AR T φ (a.put d v) (a'.put d v') := by
  cases d with
  | none => exact h
  | some d =>
    refine ⟨by simp [Act.put, h.size], fun t => ?_, h.defers, h.glob⟩
    have hs := h.size
    have hr := h.rel t
    simp only [Act.put, Array.getD_eq_getD_getElem?, Array.getElem?_setIfInBounds] at hr ⊢
    by_cases e : d = t
    · subst e
      by_cases hl : d < a.tmps.size
      · have hl' : d < a'.tmps.size := hs ▸ hl
        simp [hl, hl']; exact hv
      · have hl' : ¬ d < a'.tmps.size := hs ▸ hl
        simp [hl, hl']; exact VRel.unit φ
    · simp only [e, if_false]; exact hr
theorem AR.ev {T : Tab} {φ : Phi} {a a' : Act} (h : AR T φ a a') {x : Operand} {v : Value} (e : aev T a x = some v) : VRel φ v (a'.eval x) := by
  cases x with
  | tmp t => simp [aev] at e; subst e; simpa [Act.eval] using h.rel t
  | const c =>
    simp only [aev] at e
    split at e
    · rename_i hc; cases e; exact .ar (ARel.closed φ hc)
    · cases e
  | global g =>
    simp only [aev] at e
    split at e
    · rename_i hg; cases e
      obtain ⟨c, hc⟩ := h.glob g hg
      have := VRel.sc (SRel.ptr (PRel.ptr (φ := φ) (b := g) (off := 0) hc))
      simpa [Act.eval] using this
    · cases e
  | func f => simp [aev] at e; subst e; exact .sc (.fn rfl fun i v e => by simp at e)
/-- The operands of one operation. -/
def ER (T : Tab) (φ : Phi) (a a' : Act) (op : Op) : Prop := ∀ x ∈ op.operands, ∀ v, aev T a x = some v → VRel φ v (a'.eval x)
theorem AR.er {T : Tab} {φ : Phi} {a a' : Act} (h : AR T φ a a') (op : Op) : ER T φ a a' op := fun x _ v e => h.ev e
theorem ER.vals {T : Tab} {φ : Phi} {a a' : Act} : ∀ {xs : List Operand} {vs : List Value}, (∀ x ∈ xs, ∀ v, aev T a x = some v → VRel φ v (a'.eval x)) → avals T a xs = some vs → vs.length = xs.length ∧ ∀ (i : Nat) (v : Value), vs[i]? = some v → ∃ v', (xs.map a'.eval)[i]? = some v' ∧ VRel φ v v'
  | [], vs, h, e => by simp [avals] at e; subst e; exact ⟨rfl, fun i v h => by simp at h⟩
  | x :: xs, vs, h, e => by
    simp only [avals] at e
    split at e
    · cases e
    · rename_i u hu
      split at e
      · cases e
      · rename_i us hus
        cases e
        have ih := ER.vals (fun y hy => h y (by simp [hy])) hus
        refine ⟨by simp [ih.1], fun i v hv => ?_⟩
        cases i with
        | zero => simp at hv; subst hv; exact ⟨_, by simp, h x (by simp) _ hu⟩
        | succ i => simp only [List.getElem?_cons_succ, List.map_cons] at hv ⊢; exact ih.2 i v hv
theorem ER.parts {T : Tab} {φ : Phi} {a a' : Act} : ∀ {xs : List (Nat × Operand)} {vs : List (Nat × Value)}, (∀ x ∈ xs.map (·.2), ∀ v, aev T a x = some v → VRel φ v (a'.eval x)) → aparts T a xs = some vs → PartsRel φ vs (xs.map fun (i, x) => (i, a'.eval x))
  | [], vs, h, e => by simp [aparts] at e; subst e; exact ⟨rfl, fun i j v h => by simp at h⟩
  | (k, x) :: xs, vs, h, e => by
    simp only [aparts] at e
    split at e
    · cases e
    · rename_i u hu
      split at e
      · rename_i ha
        split at e
        · cases e
        · rename_i us hus
          cases e
          have ih := ER.parts (fun y hy => h y (by simp only [List.map_cons, List.mem_cons]; exact .inr hy)) hus
          refine ⟨by simpa using ih.1, fun i j v hv => ?_⟩
          cases i with
          | zero => simp at hv; obtain ⟨rfl, rfl⟩ := hv; exact ⟨_, by simp, (h x (by simp) _ hu).toA (isA_not ha)⟩
          | succ i => simp only [List.getElem?_cons_succ, List.map_cons] at hv ⊢; exact ih.2 i j v hv
      · cases e
theorem ER.opt {T : Tab} {φ : Phi} {a a' : Act} {o : Option Operand} {r : Option Value} (h : ∀ x ∈ o.toArray, ∀ v, aev T a x = some v → VRel φ v (a'.eval x)) (e : aopt T a o = some r) : ORel φ r (o.map a'.eval) := by
  cases o with
  | none => simp [aopt] at e; subst e; trivial
  | some x =>
    simp only [aopt] at e
    obtain ⟨v, hv, rfl⟩ := Option.map_eq_some_iff.1 e
    exact h x (by simp) v hv

section
variable {P : Program} {T : Tab} (hT : T.Ok P) {φ : Phi} {w : World}
include hT

theorem apureB_run {b : Builtin} {tys : List TypeId} {ty : TypeId} {vs vs' : List Value} {cs : Array Bool} {v : Value} (h : apureB T b tys vs = some v) (hl : vs.length = vs'.length) (hv : ∀ (i : Nat) (v : Value), vs[i]? = some v → ∃ v', vs'[i]? = some v' ∧ VRel φ v v') :
    (builtin b tys.toArray ty cs vs'.toArray).run P w = .ok (.value v) w ∧ SRel φ v v := by
  unfold apureB at h
  split at h
  · rename_i t x
    obtain ⟨x', e, hx⟩ := hv 0 x (by simp)
    obtain rfl : vs' = [x'] := by
      match vs', hl, e with
      | [y], _, e => simp at e; rw [e]
    split at h
    · rename_i ht
      cases h
      rw [hx.string_inv]
      exact ⟨by simp [builtin, Builtin.len_, hT.und w ht], .int _ _⟩
    · rename_i ht
      cases h
      obtain ⟨a', c', rfl, _⟩ := (hx.toA (by simp)).slice_any
      exact ⟨by simp [builtin, Builtin.len_, hT.und w ht], .int _ _⟩
    · rename_i ht
      cases h
      refine ⟨?_, .int _ _⟩
      simp only [builtin, Builtin.len_, List.getElem?_toArray, List.getElem?_cons_zero, Sem.run_bind, hT.und w ht, Result.andThen_ok]
      simp
    · cases h
  · rename_i k n rest
    match vs', hl, hv with
    | y :: ys, hl, hv =>
      obtain ⟨y', e, hy⟩ := hv 0 (.int k n) (by simp)
      simp at e; subst e
      rw [hy.int_inv]
      have hm := amax_run (P := P) (φ := φ) w (mx := true) rest ys (.int k n) v h ⟨_, _, rfl⟩ (by simpa using hl) (fun i u e => by simpa using hv (i + 1) u (by simpa using e))
      simp only [if_true] at hm
      refine ⟨?_, hm.2⟩
      simp only [builtin, Builtin.max_, Sem.run_bind, hm.1, Result.andThen_ok, Sem.run_pure]
  · rename_i k n rest
    match vs', hl, hv with
    | y :: ys, hl, hv =>
      obtain ⟨y', e, hy⟩ := hv 0 (.int k n) (by simp)
      simp at e; subst e
      rw [hy.int_inv]
      have hm := amax_run (P := P) (φ := φ) w (mx := false) rest ys (.int k n) v h ⟨_, _, rfl⟩ (by simpa using hl) (fun i u e => by simpa using hv (i + 1) u (by simpa using e))
      simp only [Bool.false_eq_true, if_false] at hm
      refine ⟨?_, hm.2⟩
      simp only [builtin, Builtin.min_, Sem.run_bind, hm.1, Result.andThen_ok, Sem.run_pure]
  · cases h

/-- A pure operation: in any world. -/
theorem apure_run {a a' : Act} {o : Oper} {v : Value} (hE : ER T φ a a' o.op) (h : apure T a o.op = some v) : ∃ v', (execOp a'.eval o).run P w = .ok (.value v') w ∧ VRel φ v v' := by
  obtain ⟨dst, op, type, pos, after, guard⟩ := o
  simp only at h hE
  unfold apure at h
  split at h
  · exact ⟨_, rfl, hE _ (by simp [Op.operands]) _ h⟩
  · exact ⟨_, rfl, hE _ (by simp [Op.operands]) _ h⟩
  · split at h
    · rename_i hc
      split at h
      · exact ⟨_, by simp [execOp, (hE _ (by simp [Op.operands]) _ hc).bool_inv, asBool], hE _ (by simp [Op.operands]) _ h⟩
      · cases h
    · rename_i hc
      split at h
      · exact ⟨_, by simp [execOp, (hE _ (by simp [Op.operands]) _ hc).bool_inv, asBool], hE _ (by simp [Op.operands]) _ h⟩
      · cases h
    · cases h
  · split at h
    · rename_i t ps _ vs hvs
      obtain ⟨v', hr, hL⟩ := abuild_run hT (P := P) w h (ER.parts (fun x hx v e => hE x (by simpa [Op.operands] using hx) v e) hvs)
      rw [← List.map_toArray, Array.toArray_toList] at hr
      exact ⟨v', by simp only [execOp, Sem.run_bind, hr, Result.andThen_ok, Sem.run_pure], .ar hL⟩
    · cases h
  · split at h
    · rename_i x p hu
      cases h
      have hx := hE _ (by simp [Op.operands]) _ hu
      obtain ⟨a2, e⟩ := hx.ptr_inv.notnil
      exact ⟨_, by simp [execOp, e], e ▸ hx⟩
    · cases h
  · split at h
    · rename_i op t x y _ _ _ u v hu hv
      obtain ⟨hr, hL⟩ := abin_run hT (P := P) w (X := x) (Y := y) h (hE _ (by simp [Op.operands]) _ hu) (hE _ (by simp [Op.operands]) _ hv)
      exact ⟨_, by simp only [execOp, Sem.run_bind]; rw [Sem.run_bind] at hr; rw [hr]; simp, .sc hL⟩
    · cases h
  · split at h
    · rename_i u hu
      obtain ⟨hr, hL⟩ := aun_run (P := P) w h (hE _ (by simp [Op.operands]) _ hu)
      exact ⟨_, by simp only [execOp, Sem.run_bind, hr, Result.andThen_ok, Sem.run_pure], .sc hL⟩
    · cases h
  · split at h
    · rename_i u hu
      obtain ⟨hr, hL⟩ := aconvert_run hT (P := P) w h (hE _ (by simp [Op.operands]) _ hu)
      exact ⟨_, by simp only [execOp, Sem.run_bind, hr, Result.andThen_ok, Sem.run_pure], .sc hL⟩
    · cases h
  · split at h
    · rename_i fn first caps _ _ f vs hvs
      split at h
      · rename_i hall
        obtain ⟨hf0, hall⟩ := hall
        have hf1 : first = #[] := Array.eq_empty_of_size_eq_zero hf0
        subst hf1
        cases h
        obtain ⟨hl, hv⟩ := ER.vals (fun x hx v e => hE x (by simpa [Op.operands] using hx) v e) hvs
        refine ⟨.func (.func f) #[] (caps.map a'.eval), by simp [execOp, Instr.makeFunc], .sc (.fn (by simp at hl ⊢; exact hl) fun i v e => ?_)⟩
        obtain ⟨v', e', hr⟩ := hv i v (by simpa using e)
        refine ⟨v', by simpa using e', ?_⟩
        have hm : v ∈ vs := List.mem_of_getElem? (by simpa using e)
        have := List.all_eq_true.1 hall v hm
        cases v <;> simp [isPtr] at this
        exact hr.ptr_inv
      · cases h
    · cases h
  · split at h
    · rename_i hu hl hh
      obtain ⟨v', hr, hL⟩ := aslice_run hT (P := P) w h (hE _ (by simp [Op.operands]) _ hu) (ER.opt (fun x hx v e => hE x (by simp only [Op.operands, Array.mem_append]; exact .inl (.inl (.inr hx))) v e) hl) (ER.opt (fun x hx v e => hE x (by simp only [Op.operands, Array.mem_append]; exact .inl (.inr hx)) v e) hh)
      exact ⟨_, by simp only [execOp, Sem.run_bind, Option.map_none, hr, Result.andThen_ok, Sem.run_pure], hL⟩
    · cases h
  · split at h
    · rename_i u hu
      obtain ⟨v', hr, hL⟩ := afield_run hT (P := P) w h (hE _ (by simp [Op.operands]) _ hu)
      exact ⟨_, by simp only [execOp, Sem.run_bind, hr, Result.andThen_ok, Sem.run_pure], hL⟩
    · cases h
  · split at h
    · rename_i u hu
      obtain ⟨v', hr, hL⟩ := apick_run hT (P := P) w h (hE _ (by simp [Op.operands]) _ hu)
      exact ⟨_, by simp only [execOp, Sem.run_bind, hr, Result.andThen_ok, Sem.run_pure], hL⟩
    · cases h
  · split at h
    · rename_i hu hv
      obtain ⟨v', hr, hL⟩ := aindex_run hT (P := P) w h (hE _ (by simp [Op.operands]) _ hu) (hE _ (by simp [Op.operands]) _ hv)
      exact ⟨_, by simp only [execOp, Sem.run_bind, hr, Result.andThen_ok, Sem.run_pure], hL⟩
    · cases h
  · split at h
    · rename_i ht hu hv
      split at h
      · rename_i h0
        split at h
        · rename_i b hb
          cases h
          refine ⟨.int .u8 b.toNat, ?_, .sc (.int _ _)⟩
          simp only [execOp, Instr.index, (hE _ (by simp [Op.operands]) _ hu).string_inv, (hE _ (by simp [Op.operands]) _ hv).int_inv, asIntOf, Sem.run_bind, Sem.run_pure, Result.andThen_ok, hT.und w ht]
          simp [h0, hb]
        · cases h
      · cases h
    · cases h
  · split at h
    · rename_i u hu
      obtain ⟨v', hr, hL⟩ := aextract_run (P := P) w h (hE _ (by simp [Op.operands]) _ hu)
      exact ⟨_, by simp only [execOp, Sem.run_bind, hr, Result.andThen_ok, Sem.run_pure], hL⟩
    · cases h
  · split at h
    · rename_i b args tys _ vs hvs
      obtain ⟨hl, hv⟩ := ER.vals (fun x hx v e => hE x (by simpa [Op.operands, Call.operands] using hx) v e) hvs
      have := apureB_run hT (P := P) (w := w) (φ := φ) (ty := type) (cs := args.map fun | .const _ => true | _ => false) (vs' := args.toList.map a'.eval) h (by simp at hl ⊢; exact hl) hv
      rw [← List.map_toArray, Array.toArray_toList, Array.toArray_toList] at this
      refine ⟨v, ?_, .sc this.2⟩
      simp only [execOp, resolve, Sem.run_bind, Sem.run_pure, Result.andThen_ok, invoke]
      exact this.1
    · cases h
  · cases h

/-- A read, of a heap in part. -/
theorem aread_run {pr : Nat → Prop} {R : Nat} {G : Nat → Option Blk} (hI : InvG pr φ R G w) {a a' : Act} {o : Oper} {v : Value} (hE : ER T φ a a' o.op) (h : aread T a o.op G = some v) : ∃ v', (execOp a'.eval o).run P w = .ok (.value v') w ∧ VRel φ v v' := by
  obtain ⟨dst, op, type, pos, after, guard⟩ := o
  simp only at h hE
  unfold aread at h
  split at h
  · split at h
    · rename_i u hu
      obtain ⟨v', hr, hL⟩ := aload_runG hT (P := P) hI h (hE _ (by simp [Op.operands]) _ hu)
      exact ⟨v', by simp only [execOp, Sem.run_bind, hr, Result.andThen_ok, Sem.run_pure], .ar hL⟩
    · cases h
  · cases h

/-- What makes a block. -/
theorem amakes_run {a a' : Act} {o : Oper} {n : Nat} {v : Value} {xs : List Value} (hE : ER T φ a a' o.op) (h : amakes T a o.op n = some (v, xs)) : ∃ s : Sem Value, execOp a'.eval o = (do pure (.value (← s))) ∧ News P φ n xs w v s := by
  obtain ⟨dst, op, type, pos, after, guard⟩ := o
  simp only at h hE
  unfold amakes at h
  split at h
  · exact ⟨_, rfl, aalloc_run hT h⟩
  · split at h
    · rename_i u hu
      exact ⟨_, rfl, abox_run h (hE _ (by simp [Op.operands]) _ hu)⟩
    · cases h
  · split at h
    · rename_i t k ps _ vs hvs
      have := abuildSlice_run hT (P := P) (w := w) h (ER.parts (fun x hx v e => hE x (by simpa [Op.operands] using hx) v e) hvs)
      rw [← List.map_toArray, Array.toArray_toList] at this
      exact ⟨_, rfl, this⟩
    · cases h
  · split at h
    · rename_i hu hv
      exact ⟨_, rfl, amake_run hT h (hE _ (by simp [Op.operands]) _ hu) (hE _ (by simp [Op.operands]) _ hv)⟩
    · cases h
  · cases h
end

section
variable {P : Program} {T : Tab} (hT : T.Ok P) {pr : Nat → Prop} {φ : Phi} {H H' : AH} {w : World} (hI : Inv pr φ H w)
include hT hI

/-- What one operation leaves. -/
def Does (P : Program) (pr : Nat → Prop) (φ : Phi) (H' : AH) (w : World) (v : Value) (s : Sem Next) : Prop :=
  ∃ r w' v', s.run P w = .ok r w' ∧ (r = .value v' ∨ (r = .skip ∧ v' = undef)) ∧ Left pr φ H' w v v' w'
omit hT hI in
theorem Does.value {s : Sem Value} {v v' : Value} {w' : World} (h : s.run P w = .ok v' w') (hv : Left pr φ H' w v v' w') : Does P pr φ H' w v (do pure (.value (← s))) :=
  ⟨.value v', w', v', by simp [h], .inl rfl, hv⟩
omit hT hI in
theorem keep_inv {o : Option Value} {v : Value} (h : keep H o = some (v, H')) : o = some v ∧ H' = H := by
  cases o with
  | none => cases h
  | some u => simp [keep] at h; exact ⟨by rw [h.1], h.2.symm⟩
omit hT hI in
theorem anew_inv {o : Option (Value × List Value)} {v : Value} (h : anew H o = some (v, H')) : ∃ xs, o = some (v, xs) ∧ H' = H.push xs := by
  cases o with
  | none => cases h
  | some u => obtain ⟨u, xs⟩ := u; simp [anew] at h; exact ⟨xs, by rw [h.1], h.2.symm⟩

theorem aeffB_run {b : Builtin} {tys : List TypeId} {ty : TypeId} {vs vs' : List Value} {cs : Array Bool} {v : Value} (h : aeffB T b tys vs H = some (v, H')) (hl : vs.length = vs'.length) (hv : ∀ (i : Nat) (v : Value), vs[i]? = some v → ∃ v', vs'[i]? = some v' ∧ VRel φ v v') :
    Does P pr φ H' w v (builtin b tys.toArray ty cs vs'.toArray) := by
  unfold aeffB at h
  split at h
  · rename_i t0 t1 s x
    obtain ⟨s', e, hs⟩ := hv 0 s (by simp)
    obtain ⟨x', e2, hx⟩ := hv 1 x (by simp)
    obtain rfl : vs' = [s', x'] := by
      match vs', hl, e, e2 with
      | [y, z], _, e, e2 => simp at e e2; rw [e, e2]
    obtain ⟨v', w', hr, hL⟩ := aappend_run hT (P := P) (ty := ty) hI h hs hx
    exact Does.value hr hL
  · rename_i t0 t1 s x
    obtain ⟨s', e, hs⟩ := hv 0 s (by simp)
    obtain ⟨x', e2, hx⟩ := hv 1 x (by simp)
    obtain rfl : vs' = [s', x'] := by
      match vs', hl, e, e2 with
      | [y, z], _, e, e2 => simp at e e2; rw [e, e2]
    obtain ⟨v', w', hr, hL⟩ := acopy_run hT (P := P) (t1 := t1) (ty := ty) hI h hs hx
    exact Does.value hr hL
  · rename_i t0 s
    obtain ⟨s', e, hs⟩ := hv 0 s (by simp)
    obtain rfl : vs' = [s'] := by
      match vs', hl, e with
      | [y], _, e => simp at e; rw [e]
    obtain ⟨v', w', hr, hL⟩ := aclear_run hT (P := P) (ty := ty) hI h hs
    exact Does.value hr hL
  · cases h
theorem aeff_run {a a' : Act} {o : Oper} {v : Value} (hE : ER T φ a a' o.op) (h : aeff T a o.op H = some (v, H')) : Does P pr φ H' w v (execOp a'.eval o) := by
  obtain ⟨dst, op, type, pos, after, guard⟩ := o
  simp only at h hE
  unfold aeff at h
  split at h
  · split at h
    · rename_i hu hv
      split at h
      · rename_i H2 hs
        cases h
        obtain ⟨w', hr, hI', hK⟩ := astore_run hT (P := P) hI hs (hE _ (by simp [Op.operands]) _ hu) (hE _ (by simp [Op.operands]) _ hv)
        exact ⟨.skip, w', undef, by simp [execOp, hr], .inr ⟨rfl, rfl⟩, φ, Phi.le.refl _, VRel.unit φ, hI', hK⟩
      · cases h
    · cases h
  · split at h
    · rename_i b args tys _ vs hvs
      obtain ⟨hl, hv⟩ := ER.vals (fun x hx v e => hE x (by simpa [Op.operands, Call.operands] using hx) v e) hvs
      have := aeffB_run hT hI (P := P) (ty := type) (cs := args.map fun | .const _ => true | _ => false) (vs' := args.toList.map a'.eval) h (by simp at hl ⊢; exact hl) hv
      obtain ⟨r, w', v', hr, hrest⟩ := this
      refine ⟨r, w', v', ?_, hrest⟩
      rw [← List.map_toArray, Array.toArray_toList, Array.toArray_toList] at hr
      simp only [execOp, resolve, Sem.run_bind, Sem.run_pure, Result.andThen_ok, invoke]
      exact hr
    · cases h
  · cases h

theorem aop_run {a a' : Act} {o : Oper} {v : Value} (hE : ER T φ a a' o.op) (h : aop T a o.op H = some (v, H')) : Does P pr φ H' w v (execOp a'.eval o) := by
  unfold aop at h
  split at h
  · obtain ⟨h1, rfl⟩ := keep_inv h
    obtain ⟨v', hr, hv⟩ := apure_run hT (P := P) (w := w) hE h1
    exact ⟨.value v', w, v', hr, .inl rfl, φ, Phi.le.refl _, hv, hI, Kept.refl _ _⟩
  · obtain ⟨h1, rfl⟩ := keep_inv h
    obtain ⟨v', hr, hv⟩ := aread_run hT (P := P) hI.toInvG hE h1
    exact ⟨.value v', w, v', hr, .inl rfl, φ, Phi.le.refl _, hv, hI, Kept.refl _ _⟩
  · obtain ⟨xs, h1, rfl⟩ := anew_inv h
    obtain ⟨s, es, hn⟩ := amakes_run hT (P := P) (w := w) hE h1
    obtain ⟨v', w', hr, hL⟩ := hn.left hI
    rw [es]
    exact Does.value hr hL
  · exact aeff_run hT hI hE h
end
end Go.Ab

/- Regions in the text's order, control, calls. -/
set_option linter.unusedVariables false
set_option linter.unusedSimpArgs false
namespace Go.Ab

abbrev CallF := FuncId → List Value → AH → Option (Value × AH)
/-- One operation, or a call. -/
def astep (T : Tab) (F : CallF) (a : Act) (o : Oper) (H : AH) : Option (Value × AH) :=
  match acallee T a o.op with
  | some (f, vs) => F f vs H
  | none => aop T a o.op H
def areg (T : Tab) (F : CallF) (ops : Array Oper) : List Oper → Act → AH → Option (Act × AH)
  | [], a, H => some (a, H)
  | o :: rest, a, H =>
    if Region.wanted o (yielded ops a.tmps) then
      match astep T F a o H with
      | some (v, H1) => areg T F ops rest (a.put o.dst v) H1
      | none => none
    else areg T F ops rest (a.put o.dst undef) H

inductive AExit where
  | normal
  | exit (id : Nat)
  | ret
  deriving DecidableEq

def ares1 (T : Tab) (a : Act) (H : AH) : ResultVar → Option Value
  | .tmp t => some (a.tmps.getD t undef)
  | .cell p t => aload T t (a.tmps.getD p undef) H.get
def aresL (T : Tab) (a : Act) (H : AH) : List ResultVar → Option (List Value)
  | [] => some []
  | r :: rs => match ares1 T a H r with
    | none => none
    | some v => match aresL T a H rs with
      | none => none
      | some vs => some (v :: vs)
def ares (T : Tab) (fn : Func) (a : Act) (H : AH) : Option Value :=
  match aresL T a H fn.results.toList with
  | some [v] => some v
  | some vs => if vs.all isA then some (.tuple vs.toArray) else none
  | none => none

theorem VRel.bool_back {φ : Phi} {v : Value} {b : Bool} (h : VRel φ v (.bool b)) : v = .bool b := by
  cases h with
  | ar h => cases h with
    | sc h => cases h with
      | bool => rfl
      | ptr h => cases h
theorem AR.yielded {T : Tab} {φ : Phi} {a a' : Act} (h : AR T φ a a') (ops : Array Oper) (j : Nat) : yielded ops a'.tmps j = yielded ops a.tmps j := by
  unfold Go.yielded
  cases hd : (ops[j]?).bind (·.dst) with
  | none => rfl
  | some t =>
    simp only [Option.bind_some]
    have hr := h.rel t
    have hs := h.size
    by_cases hl : t < a.tmps.size
    · have hl' : t < a'.tmps.size := hs ▸ hl
      simp only [Array.getD_eq_getD_getElem?, Array.getElem?_eq_getElem hl, Array.getElem?_eq_getElem hl', Option.getD_some] at hr ⊢
      generalize a.tmps[t] = x at hr
      generalize a'.tmps[t] = y at hr
      cases x with
      | bool b => rw [hr.bool_inv]
      | _ => cases y with
        | bool b => have := hr.bool_back; cases this
        | _ => rfl
    · have hl' : ¬ t < a'.tmps.size := hs ▸ hl
      rw [Array.getElem?_eq_none (Nat.le_of_not_lt hl), Array.getElem?_eq_none (Nat.le_of_not_lt hl')]
theorem AR.wanted {T : Tab} {φ : Phi} {a a' : Act} (h : AR T φ a a') (ops : Array Oper) (o : Oper) : Region.wanted o (Go.yielded ops a'.tmps) = Region.wanted o (Go.yielded ops a.tmps) := by
  unfold Region.wanted
  split
  · rfl
  · rw [h.yielded]

/-- What a call's abstract run stands for. -/
def CallOk (P : Program) (T : Tab) (F : CallF) : Prop :=
  ∀ f vs H r H', F f vs H = some (r, H') → ∀ (pr : Nat → Prop) (φ : Phi) (w : World) (vs' : List Value), Inv pr φ H w → (∀ g, T.glob g = true → ∃ c, φ g = some ⟨g, 0, c⟩) → vs.length = vs'.length → (∀ (i : Nat) (v : Value), vs[i]? = some v → ∃ v', vs'[i]? = some v' ∧ VRel φ v v') →
    Calls P f vs'.toArray w fun e w' => ∃ r', e = .returned r' ∧ Left pr φ H' w r r' w'

section
variable {P : Program} {T : Tab} (hT : T.Ok P)
include hT

omit hT in
theorem acallee_inv {φ : Phi} {a a' : Act} {o : Oper} {f : FuncId} {vs : List Value} (hA : ER T φ a a' o.op) (h : acallee T a o.op = some (f, vs)) (hf : ∃ fn c, P.funcs[f]? = some fn ∧ (fn.name == "runtime.NumGoroutine") = false ∧ fn.body = some c) (w : World) :
    ∃ vs' : List Value, (execOp a'.eval o).run P w = .ok (.enter f vs'.toArray) w ∧ vs.length = vs'.length ∧ ∀ (i : Nat) (v : Value), vs[i]? = some v → ∃ v', vs'[i]? = some v' ∧ VRel φ v v' := by
  obtain ⟨fn, c, h1, h2, h3⟩ := hf
  obtain ⟨dst, op, type, pos, after, guard⟩ := o
  simp only at h hA
  unfold acallee at h
  split at h
  · rename_i fo args _
    split at h
    · rename_i g first caps ws hg hws
      split at h
      · rename_i h0
        cases h
        have hf1 : first = #[] := Array.eq_empty_of_size_eq_zero h0
        subst hf1
        obtain ⟨hl, hv⟩ := ER.vals (fun x hx v e => hA x (by simp only [Op.operands, Call.operands, Array.mem_append]; exact .inr (by simpa using hx)) v e) hws
        have hfn := hA _ (by simp [Op.operands, Call.operands]) _ hg
        cases hfn with
        | ar hfn => cases hfn with
          | sc hfn =>
            generalize hx : a'.eval fo = x at hfn
            cases hfn with
            | ptr h => cases h
            | @fn _ _ caps' hs hc =>
              refine ⟨args.toList.map a'.eval ++ caps'.toList, ?_, by simp at hl ⊢; omega, fun i v e => ?_⟩
              · simp only [execOp, resolve, hx, Deferred.ofValue, Sem.run_bind, Sem.run_pure, Result.andThen_ok, invoke, callFunc, run_program, h1]
                have hn : fn.name ≠ "runtime.NumGoroutine" := by simpa using h2
                simp [hn, h3]
              · by_cases hi : i < ws.length
                · rw [List.getElem?_append_left hi] at e
                  obtain ⟨v', e', hr⟩ := hv i v e
                  exact ⟨v', by rw [List.getElem?_append_left (by rw [List.length_map]; omega)]; exact e', hr⟩
                · rw [List.getElem?_append_right (by omega)] at e
                  obtain ⟨v', e', hr⟩ := hc (i - ws.length) v (by simpa using e)
                  refine ⟨v', ?_, .sc (.ptr hr)⟩
                  rw [List.getElem?_append_right (by rw [List.length_map]; omega), List.length_map, ← hl]
                  simpa using e'
      · cases h
    · cases h
  · cases h

/-- The post of code. -/
def Posts (T : Tab) (pr : Nat → Prop) (φ : Phi) (w0 : World) (a1 : Act) (H1 : AH) (a' : Act) (w' : World) : Prop :=
  ∃ φ', φ.le φ' ∧ AR T φ' a1 a' ∧ Inv pr φ' H1 w' ∧ Kept pr w0 w'
def toExit : AExit → Exit
  | .normal => .normal
  | .exit id => .exit id
  | .ret => .ret

theorem areg_run {F : CallF} (hF : CallOk P T F) (hF2 : ∀ f vs H r, F f vs H = some r → ∃ fn c, P.funcs[f]? = some fn ∧ (fn.name == "runtime.NumGoroutine") = false ∧ fn.body = some c) {ops : Array Oper} {pr : Nat → Prop} {Q : Exit → Act → World → Prop} {w0 : World} {φ0 : Phi} {a1 : Act} {H1 : AH}
    (hQ : ∀ a' w', Posts T pr φ0 w0 a1 H1 a' w' → Q .normal a' w') : ∀ (l : List Oper) (φ : Phi) (a a' : Act) (H : AH) (w : World), areg T F ops l a H = some (a1, H1) → φ0.le φ → AR T φ a a' → Inv pr φ H w → Kept pr w0 w → wpList P ops Q l a' w
  | [], φ, a, a', H, w, h, hl, hA, hI, hK => by
    simp only [areg, Option.some.injEq, Prod.mk.injEq] at h
    obtain ⟨rfl, rfl⟩ := h
    exact hQ _ _ ⟨φ, hl, hA, hI, hK⟩
  | o :: rest, φ, a, a', H, w, h, hl, hA, hI, hK => by
    simp only [areg] at h
    unfold wpList
    rw [hA.wanted ops o]
    split at h
    · rename_i hw
      rw [if_pos hw]
      split at h
      · rename_i v H2 hs
        left
        unfold astep at hs
        split at hs
        · rename_i f vs hc
          obtain ⟨vs', hr, hlv, hv⟩ := acallee_inv (P := P) (hA.er _) hc (hF2 f vs H _ hs) w
          have hcall := hF f vs H v H2 hs pr φ w vs' hI hA.glob hlv hv
          unfold Oper.wp
          rw [hr, Oper.upon_enter]
          refine hcall.mono fun e w' ⟨r', he, φ2, hl2, hv2, hI2, hK2⟩ => ?_
          subst he
          exact areg_run hF hF2 hQ rest φ2 _ _ H2 w' h (hl.trans hl2) ((hA.mono hl2).put o.dst hv2) hI2 (hK.trans hK2)
        · obtain ⟨r, w', v', hr, hrv, φ2, hl2, hv2, hI2, hK2⟩ := aop_run hT hI (hA.er _) hs
          have hnext := areg_run hF hF2 hQ rest φ2 _ _ H2 w' h (hl.trans hl2) ((hA.mono hl2).put o.dst hv2) hI2 (hK.trans hK2)
          unfold Oper.wp
          rw [hr]
          rcases hrv with rfl | ⟨rfl, rfl⟩
          · rw [Oper.upon_value]; exact hnext
          · rw [Oper.upon_skip]; exact hnext
      · cases h
    · rename_i hw
      rw [if_neg hw]
      exact areg_run hF hF2 hQ rest φ _ _ H w h hl (hA.put o.dst (VRel.unit φ)) hI hK
end

def resF (tmps : Array Value) : ResultVar → Sem Value
  | .tmp t => pure (tmps.getD t undef)
  | .cell a t => do loadVar t (← asAddr (tmps.getD a undef))

/-- Code, with a number of rounds. 'D': a region that draws its order. -/
def acode (T : Tab) (F : CallF) (D : Array Oper → Act → AH → Option (Act × AH)) : Nat → Code → Act → AH → Option (AExit × Act × AH)
  | 0, _, _, _ => none
  | n + 1, c, a, H =>
    match c with
    | .skip => some (.normal, a, H)
    | .region _ ops false => match areg T F ops ops.toList a H with
      | some (a1, H1) => some (.normal, a1, H1)
      | none => none
    | .region _ ops true => match D ops a H with
      | some (a1, H1) => some (.normal, a1, H1)
      | none => none
    | .seq x y => match acode T F D n x a H with
      | some (.normal, a1, H1) => acode T F D n y a1 H1
      | r => r
    | .cond c x y => match aev T a c with
      | some (.bool true) => acode T F D n x a H
      | some (.bool false) => acode T F D n y a H
      | _ => none
    | .block id x => match acode T F D n x a H with
      | some (.exit id', a1, H1) => if id' = id then some (.normal, a1, H1) else some (.exit id', a1, H1)
      | r => r
    | .loop x => match acode T F D n x a H with
      | some (.normal, a1, H1) => acode T F D n (.loop x) a1 H1
      | r => r
    | .exit id => some (.exit id, a, H)
    | .ret => some (.ret, a, H)
    | .label _ => some (.normal, a, H)
    | _ => none

/-- A drawn region's run, right in whatever order. -/
def DrawOk (P : Program) (T : Tab) (D : Array Oper → Act → AH → Option (Act × AH)) : Prop :=
  ∀ (id : Nat) (ops : Array Oper) (a : Act) (H : AH) (a1 : Act) (H1 : AH), D ops a H = some (a1, H1) → ∀ (pr : Nat → Prop) (φ : Phi) (a' : Act) (w : World) (Q : Exit → Act → World → Prop), AR T φ a a' → Inv pr φ H w →
    (∀ a' w', Posts T pr φ w a1 H1 a' w' → Q .normal a' w') → (Code.region id ops true).wp P Q a' w

theorem Posts.trans {T : Tab} {pr : Nat → Prop} {φ φ' : Phi} {w w' : World} {a1 : Act} {H1 : AH} {a' : Act} {w2 : World} (hl : φ.le φ') (hK : Kept pr w w') (h : Posts T pr φ' w' a1 H1 a' w2) : Posts T pr φ w a1 H1 a' w2 :=
  let ⟨ψ, h1, h2, h3, h4⟩ := h
  ⟨ψ, hl.trans h1, h2, h3, hK.trans h4⟩

section
variable {P : Program} {T : Tab} (hT : T.Ok P)
include hT

theorem acode_run {F : CallF} {D : Array Oper → Act → AH → Option (Act × AH)} (hF : CallOk P T F) (hF2 : ∀ f vs H r, F f vs H = some r → ∃ fn c, P.funcs[f]? = some fn ∧ (fn.name == "runtime.NumGoroutine") = false ∧ fn.body = some c) (hD : DrawOk P T D) :
    ∀ (n : Nat) (c : Code) (a : Act) (H : AH) (e : AExit) (a1 : Act) (H1 : AH), acode T F D n c a H = some (e, a1, H1) → ∀ (pr : Nat → Prop) (φ : Phi) (a' : Act) (w : World) (Q : Exit → Act → World → Prop), AR T φ a a' → Inv pr φ H w →
      (∀ a' w', Posts T pr φ w a1 H1 a' w' → Q (toExit e) a' w') → c.wp P Q a' w ∧ ∀ x, c = .loop x → Code.rounds P x Q n a' w := by
  intro n
  induction n with
  | zero => intro c a H e a1 H1 h; simp [acode] at h
  | succ n ih2 =>
    have ih := fun c a H e a1 H1 h pr φ a' w Q hA hI hQ => (ih2 c a H e a1 H1 h pr φ a' w Q hA hI hQ).1
    intro c a H e a1 H1 h pr φ a' w Q hA hI hQ
    have loops : ∀ x, c = .loop x → Code.rounds P x Q (n + 1) a' w := by
      rintro x rfl
      simp only [acode] at h
      rw [rounds_succ]
      split at h
      · rename_i a2 H2 hx
        refine ih x a H .normal a2 H2 hx pr φ a' w _ hA hI fun a'' w'' hp => ?_
        obtain ⟨φ2, hl2, hA2, hI2, hK2⟩ := hp
        exact (ih2 (.loop x) a2 H2 e a1 H1 h pr φ2 a'' w'' Q hA2 hI2 (fun a3 w3 hp3 => hQ _ _ (hp3.trans hl2 hK2))).2 x rfl
      · rename_i hne
        refine ih x a H e a1 H1 h pr φ a' w _ hA hI fun a'' w'' hp => ?_
        cases e with
        | normal => exact absurd h (hne _ _)
        | exit id => exact hQ _ _ hp
        | ret => exact hQ _ _ hp
    refine ⟨?_, loops⟩
    simp only [acode] at h
    split at h
    · cases h
      exact wp_skip (hQ _ _ ⟨φ, Phi.le.refl _, hA, hI, Kept.refl _ _⟩)
    · split at h
      · rename_i hr
        cases h
        exact wp_region_list (areg_run hT hF hF2 hQ _ φ _ _ _ w hr (Phi.le.refl _) hA hI (Kept.refl _ _))
      · cases h
    · split at h
      · rename_i hr
        cases h
        exact hD _ _ _ _ _ _ hr pr φ a' w Q hA hI hQ
      · cases h
    · rename_i x y
      split at h
      · rename_i a2 H2 hx
        refine wp_seq (ih x a H .normal a2 H2 hx pr φ a' w _ hA hI fun a'' w'' hp => ?_)
        obtain ⟨φ2, hl2, hA2, hI2, hK2⟩ := hp
        exact ih y a2 H2 e a1 H1 h pr φ2 a'' w'' Q hA2 hI2 fun a3 w3 hp3 => hQ _ _ (hp3.trans hl2 hK2)
      · rename_i hne
        refine wp_seq (ih x a H e a1 H1 h pr φ a' w _ hA hI fun a'' w'' hp => ?_)
        cases e with
        | normal => exact absurd h (hne _ _)
        | exit id => exact hQ _ _ hp
        | ret => exact hQ _ _ hp
    · split at h
      · rename_i hc
        exact wp_cond_true (hA.ev hc).bool_inv (ih _ a H e a1 H1 h pr φ a' w Q hA hI hQ)
      · rename_i hc
        exact wp_cond_false (hA.ev hc).bool_inv (ih _ a H e a1 H1 h pr φ a' w Q hA hI hQ)
      · cases h
    · rename_i id x
      split at h
      · rename_i id' a2 H2 hx
        refine wp_block (ih x a H (.exit id') a2 H2 hx pr φ a' w _ hA hI fun a'' w'' hp => ?_)
        simp only [toExit, Exit.inBlock]
        split at h
        · rename_i he
          rw [if_pos he]
          cases h
          exact hQ _ _ hp
        · rename_i he
          rw [if_neg he]
          cases h
          exact hQ _ _ hp
      · rename_i hne
        refine wp_block (ih x a H e a1 H1 h pr φ a' w _ hA hI fun a'' w'' hp => ?_)
        cases e with
        | normal => exact hQ _ _ hp
        | exit id' => exact absurd h (hne _ _ _)
        | ret => exact hQ _ _ hp
    · rename_i x
      exact wp_loop_rounds (n + 1) (loops x rfl)
    · cases h
      exact wp_exit (hQ _ _ ⟨φ, Phi.le.refl _, hA, hI, Kept.refl _ _⟩)
    · cases h
      exact wp_ret (hQ _ _ ⟨φ, Phi.le.refl _, hA, hI, Kept.refl _ _⟩)
    · cases h
      exact wp_label (hQ _ _ ⟨φ, Phi.le.refl _, hA, hI, Kept.refl _ _⟩)
    · cases h

omit hT in
theorem results_eq (fn : Func) (tmps : Array Value) : results fn tmps = (do let vs ← fn.results.mapM (resF tmps); pure (if h : vs.size = 1 then vs[0] else .tuple vs)) := rfl

theorem aresL_run {φ : Phi} {a a' : Act} {H : AH} {pr : Nat → Prop} {w : World} (hA : AR T φ a a') (hI : Inv pr φ H w) : ∀ (rs : List ResultVar) (vs : List Value), aresL T a H rs = some vs →
    ∃ vs' : List Value, (rs.mapM (resF a'.tmps) : Sem _).run P w = .ok vs' w ∧ vs.length = vs'.length ∧ ∀ (i : Nat) (v : Value), vs[i]? = some v → ∃ v', vs'[i]? = some v' ∧ VRel φ v v'
  | [], vs, h => by simp only [aresL, Option.some.injEq] at h; subst h; exact ⟨[], by simp, rfl, fun i v e => by simp at e⟩
  | r :: rs, vs, h => by
    simp only [aresL] at h
    split at h
    · cases h
    · rename_i v hv
      split at h
      · cases h
      · rename_i us hus
        cases h
        obtain ⟨vs', hr, hl, hrel⟩ := aresL_run hA hI rs us hus
        have h1 : ∃ v', (resF a'.tmps r).run P w = .ok v' w ∧ VRel φ v v' := by
          cases r with
          | tmp t => simp only [ares1, Option.some.injEq] at hv; subst hv; exact ⟨_, rfl, hA.rel t⟩
          | cell p t =>
            simp only [ares1] at hv
            obtain ⟨v', hr2, hv2⟩ := aload_run hT (P := P) hI hv (hA.rel p)
            have hp : ∃ ad, a'.tmps.getD p undef = .pointer (some ad) := by
              generalize ha : a.tmps.getD p undef = x at hv
              have hx := hA.rel p
              rw [ha] at hx
              unfold aload at hv
              split at hv
              · obtain ⟨q, _, e⟩ := hx.addr_inv
                exact ⟨_, e⟩
              · cases hv
            obtain ⟨ad, e⟩ := hp
            refine ⟨v', ?_, .ar hv2⟩
            simp only [resF, e] at hr2 ⊢
            simpa [Instr.loadAt, Instr.sureAddr, asAddr] using hr2
        obtain ⟨v', e1, e2⟩ := h1
        refine ⟨v' :: vs', ?_, by simp [hl], fun i u e => ?_⟩
        · rw [List.mapM_cons]
          simp only [Sem.run_bind, e1, Result.andThen_ok, hr, Sem.run_pure]
        · cases i with
          | zero => simp at e; subst e; exact ⟨v', by simp, e2⟩
          | succ i => simp only [List.getElem?_cons_succ] at e ⊢; exact hrel i u e

theorem ares_run {φ : Phi} {a a' : Act} {H : AH} {pr : Nat → Prop} {w : World} (hA : AR T φ a a') (hI : Inv pr φ H w) {fn : Func} {r : Value} (h : ares T fn a H = some r) : ∃ r', (results fn a'.tmps).run P w = .ok r' w ∧ VRel φ r r' := by
  unfold ares at h
  split at h
  · rename_i v hv
    cases h
    obtain ⟨vs', hr, hl, hrel⟩ := aresL_run hT hA hI _ _ hv (P := P)
    obtain ⟨v', e, hvr⟩ := hrel 0 r (by simp)
    have : vs' = [v'] := by
      match vs', hl, e with
      | [y], _, e => simp at e; rw [e]
    subst this
    refine ⟨v', ?_, hvr⟩
    rw [results_eq, Array.mapM_eq_mapM_toList]
    simp only [Sem.run_bind, Sem.run_map, hr, Result.andThen_ok]
    simp
  · rename_i vs hne hv
    split at h
    · rename_i hall
      cases h
      obtain ⟨vs', hr, hl, hrel⟩ := aresL_run hT hA hI _ _ hv (P := P)
      refine ⟨.tuple vs'.toArray, ?_, .tup (by simpa using hl) fun i v e => ?_⟩
      · rw [results_eq, Array.mapM_eq_mapM_toList]
        simp only [Sem.run_bind, Sem.run_map, hr, Result.andThen_ok]
        have h1 : ¬ vs'.length = 1 := by
          intro h1
          match vs, hl with
          | [], hl => simp at hl; omega
          | [y], _ => exact hne y rfl
          | y :: z :: ys, hl => simp at hl; omega
        simp [h1]
      · obtain ⟨v', e', hvr⟩ := hrel i v (by simpa using e)
        refine ⟨v', by simpa using e', hvr.toA (isA_not ?_)⟩
        exact List.all_eq_true.1 hall v (List.mem_of_getElem? (by simpa using e))
    · cases h
  · cases h
end

/-- A call, with a number of rounds. -/
def acall (T : Tab) (D : (F : CallF) → Array Oper → Act → AH → Option (Act × AH)) : Nat → CallF
  | 0 => fun _ _ _ => none
  | n + 1 => fun f vs H =>
    match T.fn f with
    | none => none
    | some fn => match fn.body with
      | none => none
      | some c =>
        match acode T (acall T D n) (D (acall T D n)) n c { tmps := vs.toArray ++ Array.replicate (fn.ntmps - vs.length) undef, defers := [] } H with
        | some (.normal, a1, H1) => match ares T fn a1 H1 with
          | some r => some (r, H1)
          | none => none
        | some (.ret, a1, H1) => match ares T fn a1 H1 with
          | some r => some (r, H1)
          | none => none
        | _ => none

section
variable {P : Program} {T : Tab} (hT : T.Ok P) {D : (F : CallF) → Array Oper → Act → AH → Option (Act × AH)} {E : CallF → Prop} (hE : ∀ n, E (acall T D n)) (hD : ∀ F, CallOk P T F → (∀ f vs H r, F f vs H = some r → ∃ fn c, P.funcs[f]? = some fn ∧ (fn.name == "runtime.NumGoroutine") = false ∧ fn.body = some c) → E F → DrawOk P T (D F))
include hT

theorem acall_fn : ∀ (n : Nat) f vs H r, acall T D n f vs H = some r → ∃ fn c, P.funcs[f]? = some fn ∧ (fn.name == "runtime.NumGoroutine") = false ∧ fn.body = some c
  | 0, f, vs, H, r, h => by simp [acall] at h
  | n + 1, f, vs, H, r, h => by
    simp only [acall] at h
    split at h
    · cases h
    · rename_i fn hf
      split at h
      · cases h
      · rename_i c hc
        exact ⟨fn, c, (hT.fn f fn hf).1, (hT.fn f fn hf).2, hc⟩
include hE hD
theorem acall_run : ∀ n, CallOk P T (acall T D n) := by
  intro n
  induction n with
  | zero => intro f vs H r H' h; simp [acall] at h
  | succ n ih =>
    intro f vs H r H' h pr φ w vs' hI hg hl hv
    simp only [acall] at h
    split at h
    · cases h
    · rename_i fn hf
      split at h
      · cases h
      · rename_i c hc
        have hA : AR T φ { tmps := vs.toArray ++ Array.replicate (fn.ntmps - vs.length) undef, defers := [] } { tmps := vs'.toArray ++ Array.replicate (fn.ntmps - vs'.toArray.size) undef, defers := [] } := by
          refine ⟨by simp [hl], fun t => ?_, rfl, hg⟩
          by_cases ht : t < vs.length
          · have ht' : t < vs'.length := hl ▸ ht
            obtain ⟨v', e, hr⟩ := hv t _ (List.getElem?_eq_getElem ht)
            have e2 : vs'[t] = v' := by rw [List.getElem?_eq_getElem ht'] at e; exact Option.some.inj e
            simp [Array.getD_eq_getD_getElem?, Array.getElem?_append, ht, ht', e2]
            exact hr
          · have ht' : ¬ t < vs'.length := hl ▸ ht
            simp [Array.getD_eq_getD_getElem?, Array.getElem?_append, ht, ht', hl]
            by_cases h3 : t - vs'.length < fn.ntmps - vs'.length
            · simp [h3]; exact VRel.unit φ
            · simp [h3]; exact VRel.unit φ
        have key : ∀ e a1 H1, acode T (acall T D n) (D (acall T D n)) n c { tmps := vs.toArray ++ Array.replicate (fn.ntmps - vs.length) undef, defers := [] } H = some (e, a1, H1) → (e = .normal ∨ e = .ret) → ares T fn a1 H1 = some r → H1 = H' →
            Calls P f vs'.toArray w fun e w' => ∃ r', e = .returned r' ∧ Left pr φ H' w r r' w' := by
          rintro e a1 H1 hc1 he hres rfl
          refine calls_of_wp (hT.fn f fn hf).1 hc ?_
          refine (acode_run hT ih (fun f vs H r h => acall_fn hT n f vs H r h) (hD _ ih (fun f vs H r h => acall_fn hT n f vs H r h) (hE n)) n c _ H e a1 H1 hc1 pr φ _ w _ hA hI ?_).1
          rintro a' w' ⟨φ2, hl2, hA2, hI2, hK2⟩
          obtain ⟨r', hr', hv'⟩ := ares_run hT (P := P) hA2 hI2 hres
          rcases he with rfl | rfl
          · exact ⟨hA2.defers, r', hr', r', rfl, φ2, hl2, hv', hI2, hK2⟩
          · exact ⟨hA2.defers, r', hr', r', rfl, φ2, hl2, hv', hI2, hK2⟩
        split at h
        · rename_i a1 H1 hc1
          split at h
          · rename_i r1 hr1
            cases h
            exact key _ _ _ hc1 (.inl rfl) hr1 rfl
          · cases h
        · rename_i a1 H1 hc1
          split at h
          · rename_i r1 hr1
            cases h
            exact key _ _ _ hc1 (.inr rfl) hr1 rfl
          · cases h
        · cases h
end
end Go.Ab

/- Regions that draw their order: the definitions; the frame's part. -/
set_option linter.unusedVariables false
set_option linter.unusedSimpArgs false
namespace Go.Ab

structure St where
  a : Act
  H : AH

def ordB (b : Array Nat) (i j : Nat) : Bool := (b.getD j 0).testBit i
/-- What is asked of a region by its text alone: what isn't ordered is apart, and no writing is unordered to a writing or behind a making. -/
def statOk (ops : Array Oper) : Bool :=
  (List.range ops.size).all fun j => match ops[j]? with
    | none => true
    | some oj =>
      oj.after.toList.all (fun e => !Region.binds .any e || decide (e.on < j)) &&
      (List.range j).all fun i => match ops[i]? with
        | none => true
        | some oi => ordB (Region.before ops) i j || (oi.apart ops oj && !(cls oj.op == .eff && (cls oi.op == .eff || cls oi.op == .make)))
/-- Reads and writings that are unordered. -/
def drawPairs (ops : Array Oper) : List (Nat × Nat) :=
  (List.range ops.size).flatMap fun i => (List.range ops.size).filterMap fun e =>
    match ops[i]?, ops[e]? with
    | some oi, some oe => if cls oi.op == .load && cls oe.op == .eff && !ordB (Region.before ops) i e && !ordB (Region.before ops) e i then some (i, e) else none
    | _, _ => none
def atrace (T : Tab) (F : CallF) (ops : Array Oper) : List Oper → St → Option (List St)
  | [], s => some [s]
  | o :: rest, s =>
    if Region.wanted o (yielded ops s.a.tmps) then
      match astep T F s.a o s.H with
      | some (v, H1) => (match atrace T F ops rest ⟨s.a.put o.dst v, H1⟩ with | some l => some (s :: l) | none => none)
      | none => none
    else match atrace T F ops rest ⟨s.a.put o.dst undef, s.H⟩ with | some l => some (s :: l) | none => none

def seq1 : Value → Value → Bool
  | .bool a, .bool b => a == b
  | .int k a, .int k' b => k == k' && a == b
  | .string a, .string b => decide (a = b)
  | .pointer a, .pointer b => a == b
  | .slice a l c, .slice a' l' c' => a == a' && l == l' && c == c'
  | .nilFunc, .nilFunc => true
  | .nilIface, .nilIface => true
  | _, _ => false
def seqL : List Value → List Value → Bool
  | [], [] => true
  | x :: xs, y :: ys => seq1 x y && seqL xs ys
  | _, _ => false
def seqV : Value → Value → Bool
  | .agg a, .agg b => seqL a.toList b.toList
  | a, b => seq1 a b
def sameV : Option Value → Option Value → Bool
  | some a, some b => seqV a b
  | _, _ => false
theorem seq1_eq {a b : Value} (h : seq1 a b = true) : a = b := by
  cases a <;> cases b <;> simp [seq1] at h <;> simp_all
theorem seqL_eq : ∀ {a b : List Value}, seqL a b = true → a = b
  | [], [], _ => rfl
  | [], _ :: _, h => by simp [seqL] at h
  | _ :: _, [], h => by simp [seqL] at h
  | x :: xs, y :: ys, h => by
    simp only [seqL, Bool.and_eq_true] at h
    rw [seq1_eq h.1, seqL_eq h.2]
theorem seqV_eq {a b : Value} (h : seqV a b = true) : a = b := by
  unfold seqV at h
  split at h
  · have := seqL_eq h
    rw [Array.toList_inj.1 this]
  · exact seq1_eq h
theorem sameV_eq {a b : Option Value} (h : sameV a b = true) : ∃ v, a = some v ∧ b = some v := by
  unfold sameV at h
  split at h
  · rw [seqV_eq h]; exact ⟨_, rfl, rfl⟩
  · cases h

def chk (T : Tab) (ops : Array Oper) (sts : List St) (p : Nat × Nat) : Bool :=
  match sts[p.1]?, sts[p.2]?, sts[p.2 + 1]?, ops[p.1]?, ops[p.2]? with
  | some si, some se, some se1, some oi, some oe =>
    if Region.wanted oi (yielded ops si.a.tmps) && Region.wanted oe (yielded ops se.a.tmps) then
      sameV (aread T si.a oi.op se.H.get) (aread T si.a oi.op si.H.get) && sameV (aread T si.a oi.op se1.H.get) (aread T si.a oi.op si.H.get)
    else true
  | _, _, _, _, _ => false
/-- A region that draws, run in the text's order, with what makes that enough. -/
def adraw (T : Tab) (F : CallF) (ops : Array Oper) (a : Act) (H : AH) : Option (Act × AH) :=
  if statOk ops then
    match drawPairs ops with
    | [] => areg T F ops ops.toList a H
    | p :: ps => match atrace T F ops ops.toList ⟨a, H⟩ with
      | some sts => if (p :: ps).all (chk T ops sts) then (match sts.getLast? with | some s => some (s.a, s.H) | none => none) else none
      | none => none
  else none

/-! ### The order -/
/-- Whatever is closed under the region's edges. -/
def Closed (ops : Array Oper) (L : Nat → Prop) : Prop := ∀ j o, ops[j]? = some o → L j → ∀ e ∈ o.after, Region.binds .any e = true → L e.on
def bstep (acc : Array Nat) (o : Oper) : Array Nat := acc.push (o.after.foldl (fun s e => if Region.binds .any e then s ||| 2 ^ e.on ||| acc.getD e.on 0 else s) 0)
theorem before_eq (ops : Array Oper) : Region.before ops = ops.toList.foldl bstep #[] := by
  unfold Region.before
  rw [← Array.foldl_toList]
  rfl
theorem fold_bits {L : Nat → Prop} (acc : Array Nat) : ∀ (l : List Edge) (s i : Nat), (∀ i, s.testBit i = true → L i) → (∀ e ∈ l, Region.binds .any e = true → L e.on ∧ ∀ i, (acc.getD e.on 0).testBit i = true → L i) →
    (l.foldl (fun s e => if Region.binds .any e then s ||| 2 ^ e.on ||| acc.getD e.on 0 else s) s).testBit i = true → L i
  | [], s, i, hs, _, h => hs i h
  | e :: l, s, i, hs, hl, h => by
    simp only [List.foldl_cons] at h
    refine fold_bits acc l _ i ?_ (fun e' he' => hl e' (by simp [he'])) h
    intro i hi
    split at hi
    · rename_i hb
      obtain ⟨h1, h2⟩ := hl e (by simp) hb
      simp only [Nat.testBit_or, Bool.or_eq_true] at hi
      rcases hi with (hi | hi) | hi
      · exact hs i hi
      · rw [Nat.testBit_two_pow] at hi
        have : e.on = i := by simpa using hi
        exact this ▸ h1
      · exact h2 i hi
    · exact hs i hi
theorem before_closed (ops : Array Oper) (L : Nat → Prop) (hL : Closed ops L) : ∀ j o, ops[j]? = some o → (∀ e ∈ o.after, Region.binds .any e = true → L e.on) → ∀ i, ordB (Region.before ops) i j = true → L i := by
  have key : ∀ (l : List Oper) (acc : Array Nat), (∀ j o, l[j]? = some o → ops[acc.size + j]? = some o) →
      (∀ j, j < acc.size → ∀ o, ops[j]? = some o → (∀ e ∈ o.after, Region.binds .any e = true → L e.on) → ∀ i, (acc.getD j 0).testBit i = true → L i) →
      ∀ j o, ops[j]? = some o → j < acc.size + l.length → (∀ e ∈ o.after, Region.binds .any e = true → L e.on) → ∀ i, ((l.foldl bstep acc).getD j 0).testBit i = true → L i := by
    intro l
    induction l with
    | nil => intro acc _ hacc j o ho hj hd i hi; exact hacc j (by simpa using hj) o ho hd i hi
    | cons o l ih =>
      intro acc hops hacc j o' ho' hj hd i hi
      simp only [List.foldl_cons] at hi
      refine ih (bstep acc o) (fun k ok hk => ?_) (fun k hk ok hok hdk i' hi' => ?_) j o' ho' (by simp [bstep] at hj ⊢; omega) hd i hi
      · have := hops (k + 1) ok (by simpa using hk)
        simp only [bstep, Array.size_push]
        rw [← this]; congr 1; omega
      · simp only [bstep, Array.size_push] at hk
        by_cases hka : k < acc.size
        · refine hacc k hka ok hok hdk i' ?_
          simpa [bstep, Array.getD_eq_getD_getElem?, Array.getElem?_push, Nat.ne_of_lt hka] using hi'
        · have hke : k = acc.size := by omega
          subst hke
          have h0 := hops 0 o (by simp)
          simp at h0
          rw [h0] at hok; cases hok
          simp only [bstep, Array.getD_eq_getD_getElem?, Array.getElem?_push, if_true, Option.getD_some] at hi'
          rw [← Array.foldl_toList] at hi'
          simp only [← Array.getD_eq_getD_getElem?] at hi'
          refine fold_bits acc o.after.toList 0 i' (fun i h => by simp at h) (fun e he hb => ?_) hi'
          have hLe := hdk e (by simpa using he) hb
          refine ⟨hLe, fun i2 hi2 => ?_⟩
          by_cases hea : e.on < acc.size
          · cases hoe : ops[e.on]? with
            | none =>
              have : ops.size ≤ e.on := Array.getElem?_eq_none_iff.1 hoe
              have h1 : acc.size < ops.size := (Array.getElem?_eq_some_iff.1 h0).1
              omega
            | some oe => exact hacc e.on hea oe hoe (hL e.on oe hoe hLe) i2 hi2
          · simp [Array.getD_eq_getD_getElem?, Array.getElem?_eq_none (Nat.le_of_not_lt hea)] at hi2
  intro j o ho hd i hi
  have hj : j < ops.size := (Array.getElem?_eq_some_iff.1 ho).1
  refine key ops.toList #[] (fun j o h => by simpa using h) (fun j hj => by simp at hj) j o ho (by simpa using hj) hd i ?_
  rw [← before_eq]
  exact hi

/-! ### The frame in part -/
section
variable (ops : Array Oper) (val : Nat → Value) (L : Nat → Prop) [DecidablePred L]
def dstOf (i : Nat) : Option Tmp := (ops[i]?).bind (·.dst)
/-- The frame when those of L have come up. -/
def part (a0 : Act) : Nat → Act
  | 0 => a0
  | k + 1 => if L k then (part a0 k).put (dstOf ops k) (val k) else part a0 k
end
def slot (a : Act) (d : Tmp) : Value := a.tmps.getD d undef
theorem slot_put (a : Act) (o : Option Tmp) (v : Value) (d : Tmp) (h : o ≠ some d) : slot (a.put o v) d = slot a d := by
  cases o with
  | none => rfl
  | some t =>
    have hne : t ≠ d := fun e => h (by rw [e])
    simp [slot, Act.put, Array.getD_eq_getD_getElem?, Array.getElem?_setIfInBounds_ne hne]
theorem size_put (a : Act) (o : Option Tmp) (v : Value) : (a.put o v).tmps.size = a.tmps.size := by cases o <;> simp [Act.put]
theorem slot_put_eq {a b : Act} (hs : a.tmps.size = b.tmps.size) (o : Option Tmp) (v : Value) (d : Tmp) (h : slot a d = slot b d) : slot (a.put o v) d = slot (b.put o v) d := by
  cases o with
  | none => exact h
  | some t =>
    by_cases e : t = d
    · subst e
      simp only [slot, Act.put, Array.getD_eq_getD_getElem?, Array.getElem?_setIfInBounds] at h ⊢
      simp only [if_true, hs]
    · rw [slot_put _ _ _ _ (by simpa using e), slot_put _ _ _ _ (by simpa using e)]; exact h
theorem part_size (ops : Array Oper) (val : Nat → Value) (L : Nat → Prop) [DecidablePred L] (a0 : Act) (k : Nat) : (part ops val L a0 k).tmps.size = a0.tmps.size := by
  induction k with
  | zero => rfl
  | succ k ih => simp only [part]; split <;> simp [size_put, ih]

theorem dstOf_eq {ops : Array Oper} {i : Nat} {o : Oper} (h : ops[i]? = some o) : dstOf ops i = o.dst := by simp [dstOf, h]
theorem dstOf_none {ops : Array Oper} {i : Nat} (h : ops[i]? = none) : dstOf ops i = none := by simp [dstOf, h]

/-- What the text asks, pair by pair. -/
structure Stat (ops : Array Oper) : Prop where
  back : ∀ j oj, ops[j]? = some oj → ∀ e ∈ oj.after, Region.binds .any e = true → e.on < j
  apart : ∀ i j oi oj, i < j → ops[i]? = some oi → ops[j]? = some oj → ordB (Region.before ops) i j = true ∨ oi.apart ops oj = true
  eff : ∀ i j oi oj, i < j → ops[i]? = some oi → ops[j]? = some oj → cls oj.op = .eff → (cls oi.op = .eff ∨ cls oi.op = .make) → ordB (Region.before ops) i j = true
theorem statOk_spec {ops : Array Oper} (h : statOk ops = true) : Stat ops := by
  unfold statOk at h
  rw [List.all_eq_true] at h
  have hj : ∀ j oj, ops[j]? = some oj → (oj.after.toList.all (fun e => !Region.binds .any e || decide (e.on < j)) = true) ∧ ∀ i oi, i < j → ops[i]? = some oi → (ordB (Region.before ops) i j || (oi.apart ops oj && !(cls oj.op == .eff && (cls oi.op == .eff || cls oi.op == .make)))) = true := by
    intro j oj ho
    have h1 := h j (List.mem_range.2 (Array.getElem?_eq_some_iff.1 ho).1)
    simp only [ho, Bool.and_eq_true] at h1
    refine ⟨h1.1, fun i oi hi hoi => ?_⟩
    have h2 := List.all_eq_true.1 h1.2 i (List.mem_range.2 hi)
    simpa only [hoi] using h2
  refine ⟨fun j oj ho e he hb => ?_, fun i j oi oj hi hoi hoj => ?_, fun i j oi oj hi hoi hoj hc hd => ?_⟩
  · have := List.all_eq_true.1 (hj j oj ho).1 e (by simpa using he)
    simpa [hb] using this
  · have := (hj j oj hoj).2 i oi hi hoi
    simp only [Bool.or_eq_true, Bool.and_eq_true] at this
    rcases this with h | h
    · exact .inl h
    · exact .inr h.1
  · have := (hj j oj hoj).2 i oi hi hoi
    rcases hd with hd | hd <;> simpa [hc, hd] using this

section
variable {ops : Array Oper} (hS : Stat ops) {val : Nat → Value} {L : Nat → Prop} [DecidablePred L] (hL : Closed ops L)
include hS hL

omit hS [DecidablePred L] in
/-- What is ordered ahead of one that came up, or may come up, has come up. -/
theorem ahead {i j : Nat} {oj : Oper} (hj : ops[j]? = some oj) (h : L j ∨ ∀ e ∈ oj.after, Region.binds .any e = true → L e.on) (ho : ordB (Region.before ops) i j = true) : L i := by
  refine before_closed ops L hL j oj hj ?_ i ho
  rcases h with h | h
  · exact fun e he hb => hL j oj hj h e he hb
  · exact h

/-- What a ready operation looks at is what it would be in the text's order. -/
theorem part_agree {st : Nat → Act} (h0 : ∀ k o, ops[k]? = some o → st (k + 1) = (st k).put o.dst (val k)) {i : Nat} {oi : Oper} (hi : ops[i]? = some oi) (hr : ∀ e ∈ oi.after, Region.binds .any e = true → L e.on) (hn : ¬ L i) {d : Tmp} (hd : d ∈ oi.looksAt ops) (n : Nat) (hin : i ≤ n) :
    slot (part ops val L (st 0) n) d = slot (st i) d := by
  have hsz : ∀ k, k ≤ i → (st k).tmps.size = (st 0).tmps.size := by
    intro k
    induction k with
    | zero => intro _; rfl
    | succ k ih =>
      intro hk
      have hlt : k < ops.size := by have := (Array.getElem?_eq_some_iff.1 hi).1; omega
      rw [h0 k _ (Array.getElem?_eq_getElem hlt), size_put]
      exact ih (by omega)
  have low : ∀ k, k ≤ i → slot (part ops val L (st 0) k) d = slot (st k) d := by
    intro k
    induction k with
    | zero => intro _; rfl
    | succ k ih =>
      intro hk
      have hlt : k < ops.size := by have := (Array.getElem?_eq_some_iff.1 hi).1; omega
      obtain ⟨ok, hok⟩ : ∃ o, ops[k]? = some o := ⟨_, Array.getElem?_eq_getElem hlt⟩
      have ih' := ih (by omega)
      rw [h0 k ok hok]
      simp only [part, dstOf_eq hok]
      split
      · exact slot_put_eq (by rw [part_size, hsz k (by omega)]) _ _ _ ih'
      · rename_i hnk
        rw [slot_put, ih']
        intro hdst
        rcases hS.apart k i ok oi (by omega) hok hi with h | h
        · exact hnk (ahead hL hi (.inr hr) h)
        · exact (Oper.apart_spec h).1 d hdst hd
  have high : ∀ m, slot (part ops val L (st 0) (i + m)) d = slot (part ops val L (st 0) i) d := by
    intro m
    induction m with
    | zero => rfl
    | succ m ih =>
      rw [← Nat.add_assoc]
      simp only [part]
      split
      · rename_i hLk
        rw [slot_put, ih]
        intro hdst
        cases hok : ops[i + m]? with
        | none => rw [dstOf_none hok] at hdst; cases hdst
        | some ok =>
          rw [dstOf_eq hok] at hdst
          by_cases hm : m = 0
          · subst hm; exact hn (by simpa using hLk)
          · rcases hS.apart i (i + m) oi ok (by omega) hi hok with h | h
            · exact hn (ahead hL hok (.inl hLk) h)
            · exact (Oper.apart_spec h).2.2 d hdst hd
      · exact ih
  obtain ⟨m, rfl⟩ := Nat.exists_eq_add_of_le hin
  rw [high m, low i (Nat.le_refl _)]

/-- One more has come up. -/
theorem part_more {a0 : Act} {i : Nat} {oi : Oper} (hi : ops[i]? = some oi) (hr : ∀ e ∈ oi.after, Region.binds .any e = true → L e.on) (hn : ¬ L i) {L' : Nat → Prop} [DecidablePred L'] (hL' : ∀ k, L' k ↔ (L k ∨ k = i)) (n : Nat) (hin : i < n) (d : Tmp) :
    slot (part ops val L' a0 n) d = slot ((part ops val L a0 n).put oi.dst (val i)) d := by
  have low : ∀ k, k ≤ i → part ops val L' a0 k = part ops val L a0 k := by
    intro k
    induction k with
    | zero => intro _; rfl
    | succ k ih =>
      intro hk
      simp only [part, ih (by omega)]
      have : L' k ↔ L k := by rw [hL' k]; constructor
                              · rintro (h | h)
                                · exact h
                                · omega
                              · exact .inl
      by_cases hLk : L k
      · rw [if_pos hLk, if_pos (this.2 hLk)]
      · rw [if_neg hLk, if_neg (fun h => hLk (this.1 h))]
  have at1 : part ops val L' a0 (i + 1) = (part ops val L a0 i).put oi.dst (val i) := by
    simp only [part, low i (Nat.le_refl _), dstOf_eq hi]
    rw [if_pos ((hL' i).2 (.inr rfl))]
  have at2 : part ops val L a0 (i + 1) = part ops val L a0 i := by simp only [part, if_neg hn]
  have high : ∀ m, slot (part ops val L' a0 (i + 1 + m)) d = slot ((part ops val L a0 (i + 1 + m)).put oi.dst (val i)) d := by
    intro m
    induction m with
    | zero => rw [Nat.add_zero, at1, at2]
    | succ m ih =>
      rw [← Nat.add_assoc]
      simp only [part]
      have hk : i + 1 + m ≠ i := by omega
      have : L' (i + 1 + m) ↔ L (i + 1 + m) := by rw [hL']; constructor
                                                  · rintro (h | h)
                                                    · exact h
                                                    · omega
                                                  · exact .inl
      by_cases hLk : L (i + 1 + m)
      · rw [if_pos hLk, if_pos (this.2 hLk)]
        have hne : ∀ t, dstOf ops (i + 1 + m) = some t → oi.dst ≠ some t := by
          intro t ht hdi
          cases hok : ops[i + 1 + m]? with
          | none => rw [dstOf_none hok] at ht; cases ht
          | some ok =>
            rw [dstOf_eq hok] at ht
            rcases hS.apart i (i + 1 + m) oi ok (by omega) hi hok with h | h
            · exact hn (ahead hL hok (.inl hLk) h)
            · exact (Oper.apart_spec h).2.1 t hdi ht
        rw [← Act.put_comm _ _ _ fun t ht => fun h => hne t h ht]
        exact slot_put_eq (by rw [part_size, size_put, part_size]) _ _ _ ih
      · rw [if_neg hLk, if_neg (fun h => hLk (this.1 h))]
        exact ih
  obtain ⟨m, rfl⟩ := Nat.exists_eq_add_of_le (show i + 1 ≤ n from hin)
  exact high m
end
end Go.Ab

/- Regions that draw their order: the heap's part. -/
set_option linter.unusedVariables false
set_option linter.unusedSimpArgs false
namespace Go.Ab

def Grow (H H' : AH) : Prop := H.size ≤ H'.size ∧ H'.ro = H.ro
theorem Grow.refl (H : AH) : Grow H H := ⟨Nat.le_refl _, rfl⟩
theorem Grow.trans {a b c : AH} (h : Grow a b) (k : Grow b c) : Grow a c := ⟨Nat.le_trans h.1 k.1, k.2.trans h.2⟩
theorem Grow.push (H : AH) (x : Blk) : Grow H (H.push x) := ⟨Nat.le_succ _, rfl⟩
theorem Grow.put (H : AH) (b : Nat) (x : Option Blk) : Grow H (H.put b x) := ⟨Nat.le_refl _, rfl⟩

theorem astore_grow {T : Tab} {t : TypeId} {x v : Value} {H H' : AH} (h : astore T t x v H = some H') : Grow H H' := by
  unfold astore at h
  split at h
  · split at h
    · split at h
      · cases h; exact Grow.put _ _ _
      · cases h
    · cases h
  · cases h
theorem aappend_grow {T : Tab} {t0 t1 : TypeId} {s x v : Value} {H H' : AH} (h : aappend T t0 t1 s x H = some (v, H')) : Grow H H' := by
  unfold aappend at h
  repeat' split at h
  all_goals first
    | (cases h; done)
    | (cases h; exact Grow.refl _)
    | (cases h; exact Grow.push _ _)
    | (cases h; exact (Grow.put _ _ _).trans (Grow.push _ _))
theorem acopy_grow {T : Tab} {t0 : TypeId} {s x v : Value} {H H' : AH} (h : acopy T t0 s x H = some (v, H')) : Grow H H' := by
  unfold acopy at h
  repeat' split at h
  all_goals first
    | (cases h; done)
    | (cases h; exact Grow.refl _)
    | (cases h; exact Grow.put _ _ _)
theorem aclear_grow {T : Tab} {t0 : TypeId} {s v : Value} {H H' : AH} (h : aclear T t0 s H = some (v, H')) : Grow H H' := by
  unfold aclear at h
  repeat' split at h
  all_goals first
    | (cases h; done)
    | (cases h; exact Grow.refl _)
    | (cases h; exact Grow.put _ _ _)
theorem aeff_grow {T : Tab} {a : Act} {op : Op} {v : Value} {H H' : AH} (h : aeff T a op H = some (v, H')) : Grow H H' := by
  unfold aeff at h
  split at h
  · split at h
    · split at h
      · rename_i hs; cases h; exact astore_grow hs
      · cases h
    · cases h
  · split at h
    · unfold aeffB at h
      split at h
      · exact aappend_grow h
      · exact acopy_grow h
      · exact aclear_grow h
      · cases h
    · cases h
  · cases h
theorem aop_grow {T : Tab} {a : Act} {op : Op} {v : Value} {H H' : AH} (h : aop T a op H = some (v, H')) : Grow H H' := by
  unfold aop at h
  split at h
  · obtain ⟨_, rfl⟩ := keep_inv h; exact Grow.refl _
  · obtain ⟨_, rfl⟩ := keep_inv h; exact Grow.refl _
  · obtain ⟨_, _, rfl⟩ := anew_inv h; exact Grow.push _ _
  · exact aeff_grow h
def FGrow (F : CallF) : Prop := ∀ f vs H r H', F f vs H = some (r, H') → Grow H H'
theorem astep_grow {T : Tab} {F : CallF} (hF : FGrow F) {a : Act} {o : Oper} {v : Value} {H H' : AH} (h : astep T F a o H = some (v, H')) : Grow H H' := by
  unfold astep at h
  split at h
  · exact hF _ _ _ _ _ h
  · exact aop_grow h
theorem areg_grow {T : Tab} {F : CallF} (hF : FGrow F) {ops : Array Oper} : ∀ {l : List Oper} {a : Act} {H : AH} {a1 : Act} {H1 : AH}, areg T F ops l a H = some (a1, H1) → Grow H H1
  | [], a, H, a1, H1, h => by simp only [areg, Option.some.injEq, Prod.mk.injEq] at h; rw [← h.2]; exact Grow.refl _
  | o :: rest, a, H, a1, H1, h => by
    simp only [areg] at h
    split at h
    · split at h
      · rename_i hs; exact (astep_grow hF hs).trans (areg_grow hF h)
      · cases h
    · exact areg_grow hF h
theorem atrace_last {T : Tab} {F : CallF} {ops : Array Oper} : ∀ {l : List Oper} {s : St} {sts : List St}, atrace T F ops l s = some sts → sts.length = l.length + 1 ∧ sts[0]? = some s ∧ ∃ s', sts.getLast? = some s' ∧ areg T F ops l s.a s.H = some (s'.a, s'.H)
  | [], s, sts, h => by simp only [atrace, Option.some.injEq] at h; subst h; exact ⟨rfl, by simp, s, by simp, by simp [areg]⟩
  | o :: rest, s, sts, h => by
    simp only [atrace] at h
    split at h
    · rename_i hw
      split at h
      · rename_i v H1 hs
        split at h
        · rename_i l hl
          cases h
          obtain ⟨h1, h2, s', h3, h4⟩ := atrace_last hl
          refine ⟨by simp [h1], by simp, s', ?_, ?_⟩
          · cases l with
            | nil => simp at h1
            | cons y ys => simpa using h3
          · simp only [areg]; rw [if_pos hw, hs]; exact h4
        · cases h
      · cases h
    · rename_i hw
      split at h
      · rename_i l hl
        cases h
        obtain ⟨h1, h2, s', h3, h4⟩ := atrace_last hl
        refine ⟨by simp [h1], by simp, s', ?_, ?_⟩
        · cases l with
          | nil => simp at h1
          | cons y ys => simpa using h3
        · simp only [areg]; rw [if_neg hw]; exact h4
      · cases h
/-- Step by step. -/
theorem atrace_step {T : Tab} {F : CallF} {ops : Array Oper} : ∀ {l : List Oper} {s : St} {sts : List St}, atrace T F ops l s = some sts → ∀ i o, l[i]? = some o → ∃ si sj, sts[i]? = some si ∧ sts[i + 1]? = some sj ∧
    ((Region.wanted o (yielded ops si.a.tmps) = true ∧ ∃ v H', astep T F si.a o si.H = some (v, H') ∧ sj = ⟨si.a.put o.dst v, H'⟩) ∨ (Region.wanted o (yielded ops si.a.tmps) = false ∧ sj = ⟨si.a.put o.dst undef, si.H⟩))
  | [], s, sts, h, i, o, hi => by simp at hi
  | o :: rest, s, sts, h, i, o', hi => by
    simp only [atrace] at h
    split at h
    · rename_i hw
      split at h
      · rename_i v H1 hs
        split at h
        · rename_i l hl
          cases h
          cases i with
          | zero =>
            simp at hi; subst hi
            refine ⟨s, _, by simp, by simpa using (atrace_last hl).2.1, .inl ⟨hw, v, H1, hs, rfl⟩⟩
          | succ i =>
            obtain ⟨si, sj, h1, h2, h3⟩ := atrace_step hl i o' (by simpa using hi)
            exact ⟨si, sj, by simpa using h1, by simpa using h2, h3⟩
        · cases h
      · cases h
    · rename_i hw
      split at h
      · rename_i l hl
        cases h
        cases i with
        | zero =>
          simp at hi; subst hi
          refine ⟨s, _, by simp, by simpa using (atrace_last hl).2.1, .inr ⟨by simpa using hw, rfl⟩⟩
        | succ i =>
          obtain ⟨si, sj, h1, h2, h3⟩ := atrace_step hl i o' (by simpa using hi)
          exact ⟨si, sj, by simpa using h1, by simpa using h2, h3⟩
      · cases h
theorem adraw_reg {T : Tab} {F : CallF} {ops : Array Oper} {a : Act} {H : AH} {a1 : Act} {H1 : AH} (h : adraw T F ops a H = some (a1, H1)) : areg T F ops ops.toList a H = some (a1, H1) := by
  unfold adraw at h
  split at h
  · split at h
    · exact h
    · split at h
      · rename_i sts hs
        split at h
        · obtain ⟨_, _, s', h3, h4⟩ := atrace_last hs
          rw [h3] at h
          cases h
          exact h4
        · cases h
      · cases h
  · cases h
theorem acode_grow {T : Tab} {F : CallF} (hF : FGrow F) : ∀ (n : Nat) (c : Code) (a : Act) (H : AH) (e : AExit) (a1 : Act) (H1 : AH), acode T F (adraw T F) n c a H = some (e, a1, H1) → Grow H H1 := by
  intro n
  induction n with
  | zero => intro c a H e a1 H1 h; simp [acode] at h
  | succ n ih =>
    intro c a H e a1 H1 h
    simp only [acode] at h
    split at h
    · cases h; exact Grow.refl _
    · split at h
      · rename_i hr; cases h; exact areg_grow hF hr
      · cases h
    · split at h
      · rename_i hr; cases h; exact areg_grow hF (adraw_reg hr)
      · cases h
    · split at h
      · rename_i hx; exact (ih _ _ _ _ _ _ hx).trans (ih _ _ _ _ _ _ h)
      · exact ih _ _ _ _ _ _ h
    · split at h
      · exact ih _ _ _ _ _ _ h
      · exact ih _ _ _ _ _ _ h
      · cases h
    · split at h
      · rename_i hx
        split at h
        · cases h; exact ih _ _ _ _ _ _ hx
        · cases h; exact ih _ _ _ _ _ _ hx
      · exact ih _ _ _ _ _ _ h
    · split at h
      · rename_i hx; exact (ih _ _ _ _ _ _ hx).trans (ih _ _ _ _ _ _ h)
      · exact ih _ _ _ _ _ _ h
    · cases h; exact Grow.refl _
    · cases h; exact Grow.refl _
    · cases h; exact Grow.refl _
    · cases h
theorem acall_grow {T : Tab} : ∀ n, FGrow (acall T (adraw T) n) := by
  intro n
  induction n with
  | zero => intro f vs H r H' h; simp [acall] at h
  | succ n ih =>
    intro f vs H r H' h
    simp only [acall] at h
    split at h
    · cases h
    · split at h
      · cases h
      · split at h
        · rename_i hc
          split at h
          · cases h; exact acode_grow ih _ _ _ _ _ _ _ hc
          · cases h
        · rename_i hc
          split at h
          · cases h; exact acode_grow ih _ _ _ _ _ _ _ hc
          · cases h
        · cases h

/-! ### Values that speak of low numbers alone -/
def lowOf (φ : Phi) (n : Nat) : Phi := fun b => if b < n then φ b else none
theorem low_le (φ : Phi) (n : Nat) : (lowOf φ n).le φ := fun b p h => by unfold lowOf at h; split at h <;> first | exact h | cases h
theorem low_eq {φ : Phi} {n b : Nat} (h : b < n) : lowOf φ n b = φ b := by simp [lowOf, h]
theorem PRel.low {φ ψ : Phi} {n : Nat} (hd : ∀ b p, ψ b = some p → b < n) {v u v' : Value} (h : PRel ψ v u) (h' : PRel φ v v') : PRel (lowOf φ n) v v' := by
  cases h' with
  | nilp => exact .nilp
  | ptr h2 => cases h with
    | ptr h1 => exact .ptr (by rw [low_eq (hd _ _ h1)]; exact h2)
theorem SRel.low {φ ψ : Phi} {n : Nat} (hd : ∀ b p, ψ b = some p → b < n) {v u v' : Value} (h : SRel ψ v u) (h' : SRel φ v v') : SRel (lowOf φ n) v v' := by
  cases h' with
  | bool b => exact .bool b
  | int k m => exact .int k m
  | string s => exact .string s
  | ptr h2 => cases h2 with
    | nilp => exact .ptr .nilp
    | ptr h2 => cases h with
      | ptr h1 => exact .ptr (h1.low hd (.ptr h2))
  | snil => exact .snil
  | sl h2 h3 h4 h5 h6 => cases h with
    | ptr h => cases h
    | sl h1 => exact .sl (by rw [low_eq (hd _ _ h1)]; exact h2) h3 h4 h5 h6
    | sl0 h1 => exact .sl (by rw [low_eq (hd _ _ h1)]; exact h2) h3 h4 h5 h6
  | sl0 h2 a => cases h with
    | ptr h => cases h
    | sl h1 => exact .sl0 (by rw [low_eq (hd _ _ h1)]; exact h2) a
    | sl0 h1 => exact .sl0 (by rw [low_eq (hd _ _ h1)]; exact h2) a
  | sle a => exact .sle a
  | nilFunc => exact .nilFunc
  | nilIface => exact .nilIface
  | fn hs2 h2 => cases h with
    | ptr h => cases h
    | fn hs1 h1 =>
      refine .fn hs2 fun i v e => ?_
      obtain ⟨u, e1, r1⟩ := h1 i v e
      obtain ⟨v', e2, r2⟩ := h2 i v e
      exact ⟨v', e2, r1.low hd r2⟩
theorem CRel.low {φ ψ : Phi} {n : Nat} (hd : ∀ b p, ψ b = some p → b < n) {v u v' : List Value} (h : CRel ψ v u) (h' : CRel φ v v') : CRel (lowOf φ n) v v' :=
  ⟨h'.1, fun i x e => by
    obtain ⟨u, e1, r1⟩ := h.2 i x e
    obtain ⟨v', e2, r2⟩ := h'.2 i x e
    exact ⟨v', e2, r1.low hd r2⟩⟩
theorem ARel.low {φ ψ : Phi} {n : Nat} (hd : ∀ b p, ψ b = some p → b < n) {v u v' : Value} (h : ARel ψ v u) (h' : ARel φ v v') : ARel (lowOf φ n) v v' := by
  cases h' with
  | sc h2 => cases h with
    | sc h1 => exact .sc (h1.low hd h2)
    | agg h1 => cases h2 with
      | ptr h => cases h
  | agg h2 => obtain ⟨u', rfl, h1⟩ := h.agg_inv; exact .agg (h1.low hd h2)
theorem VRel.low {φ ψ : Phi} {n : Nat} (hd : ∀ b p, ψ b = some p → b < n) {v u v' : Value} (h : VRel ψ v u) (h' : VRel φ v v') : VRel (lowOf φ n) v v' := by
  cases h' with
  | ar h2 => cases h with
    | ar h1 => exact .ar (h1.low hd h2)
    | tup hs h1 => cases h2 with
      | sc h2 => cases h2 with
        | ptr h => cases h
  | tup hs2 h2 =>
    obtain ⟨u', rfl, hs1, h1⟩ := h.tup_inv
    refine .tup hs2 fun i x e => ?_
    obtain ⟨u, e1, r1⟩ := h1 i x e
    obtain ⟨v', e2, r2⟩ := h2 i x e
    exact ⟨v', e2, r1.low hd r2⟩

/-- What lies at or above n is laid aside. -/
def aside (φ : Phi) (n : Nat) (pr : Nat → Prop) : Nat → Prop := fun k => pr k ∨ ∃ b p, n ≤ b ∧ φ b = some p ∧ p.B = k
theorem InvG.restrict {pr : Nat → Prop} {φ ψ : Phi} {R n : Nat} {G G0 : Nat → Option Blk} {w : World} (hI : InvG pr φ R G w) (hd : ∀ b p, ψ b = some p → b < n) (hg : ∀ b x, G0 b = some x → ∃ u : Nat → Value, ∀ (i : Nat) (v : Value), x[i]? = some v → SRel ψ v (u i))
    (hG : ∀ b, b < n → G0 b = G b) (hG0 : ∀ b, n ≤ b → G0 b = none) (hh : ∀ b p, n ≤ b → φ b = some p → R ≤ b ∧ G b ≠ none) : InvG (aside φ n pr) (lowOf φ n) R G0 w := by
  have hlt : ∀ b x, G0 b = some x → b < n ∧ G b = some x := fun b x h => by
    by_cases hb : b < n
    · exact ⟨hb, by rw [← hG b hb]; exact h⟩
    · rw [hG0 b (by omega)] at h; cases h
  refine ⟨fun b p h => hI.low b p (low_le φ n b p h), fun b x h => ?_, fun b x p h hr hp => ?_, fun b c x p q h hr hne hc hp hq => ?_, fun k hk => ?_⟩
  · obtain ⟨hb, hx⟩ := hlt b x h
    obtain ⟨p, hp, hl, hv⟩ := hI.live b x hx
    obtain ⟨u, hu⟩ := hg b x h
    refine ⟨p, by rw [low_eq hb]; exact hp, hl, fun i v e => ?_⟩
    obtain ⟨v', e', hs⟩ := hv i v e
    exact ⟨v', e', (hu i v e).low hd hs⟩
  · obtain ⟨hb, hx⟩ := hlt b x h
    have hp' := low_le φ n b p hp
    obtain ⟨h1, h2⟩ := hI.own b x p hx hr hp'
    refine ⟨?_, h2⟩
    rintro (h | ⟨c, q, hc, hq, e⟩)
    · exact h1 h
    · exact hI.apart b c x p q hx hr (by omega) (.inr (hh c q hc hq).2) hp' hq e.symm
  · obtain ⟨hb, hx⟩ := hlt b x h
    refine hI.apart b c x p q hx hr hne ?_ (low_le φ n b p hp) (low_le φ n c q hq)
    rcases hc with hc | hc
    · exact .inl hc
    · right
      intro hn
      have hcn : c < n := by
        unfold lowOf at hq; split at hq
        · assumption
        · cases hq
      exact hc (by rw [hG c hcn]; exact hn)
  · rcases hk with hk | ⟨b, p, _, hp, e⟩
    · exact hI.prot k hk
    · exact e ▸ hI.low b p hp

def over (φ ψ : Phi) (n : Nat) : Phi := fun b => if b < n then ψ b else φ b
theorem InvG.merge {pr : Nat → Prop} {φ ψ : Phi} {R n m : Nat} {G G2 : Nat → Option Blk} {w w' : World} (hI : InvG pr φ R G w) (hR : ∀ c, c < R → ∃ p, φ c = some p) (hRn : R ≤ n) (hnm : n ≤ m) (hle : (lowOf φ n).le ψ) (h2 : InvG (aside φ n pr) ψ R G2 w') (hd : ∀ b p, ψ b = some p → b < m)
    (hK : Kept (aside φ n pr) w w') (hh : ∀ b p, n ≤ b → φ b = some p → m ≤ b ∧ G b ≠ none) : φ.le (over φ ψ m) ∧ ψ.le (over φ ψ m) ∧ InvG pr (over φ ψ m) R (fun b => if b < m then G2 b else G b) w' := by
  have l1 : φ.le (over φ ψ m) := fun b p h => by
    unfold over
    by_cases hb : b < n
    · rw [if_pos (by omega)]; exact hle b p (by rw [low_eq hb]; exact h)
    · rw [if_neg (by have := (hh b p (by omega) h).1; omega)]; exact h
  have l2 : ψ.le (over φ ψ m) := fun b p h => by unfold over; rw [if_pos (hd b p h)]; exact h
  have heap : ∀ b p, m ≤ b → φ b = some p → w'.heap[p.B]? = w.heap[p.B]? := fun b p hb hp => hK.block p.B (.inr ⟨b, p, by omega, hp, rfl⟩)
  have oinv : ∀ b p, over φ ψ m b = some p → (b < m ∧ ψ b = some p) ∨ (m ≤ b ∧ φ b = some p) := fun b p h => by
    unfold over at h
    split at h
    · exact .inl ⟨by assumption, h⟩
    · exact .inr ⟨by omega, h⟩
  refine ⟨l1, l2, fun b p h => ?_, fun b x h => ?_, fun b x p h hr hp => ?_, fun b c x p q h hr hne hc hp hq => ?_, fun k hk => ?_⟩
  · rcases oinv b p h with ⟨_, h⟩ | ⟨_, h⟩
    · exact h2.low b p h
    · exact Nat.lt_of_lt_of_le (hI.low b p h) hK.size
  · split at h
    · obtain ⟨p, hp, hl, hv⟩ := h2.live b x h
      exact ⟨p, l2 b p hp, hl, fun i v e => let ⟨v', e', hs⟩ := hv i v e; ⟨v', e', hs.mono l2⟩⟩
    · obtain ⟨p, hp, hl, hv⟩ := hI.live b x h
      refine ⟨p, l1 b p hp, hl, fun i v e => ?_⟩
      obtain ⟨v', e', hs⟩ := hv i v e
      refine ⟨v', ?_, hs.mono l1⟩
      rw [← e']
      exact World.cell?_of_block (heap b p (by omega) hp)
  · split at h
    · rename_i hb
      rcases oinv b p hp with ⟨_, hp⟩ | ⟨hb2, _⟩
      · obtain ⟨h3, h4⟩ := h2.own b x p h hr hp
        exact ⟨fun h => h3 (.inl h), h4⟩
      · omega
    · rename_i hb
      rcases oinv b p hp with ⟨hb2, _⟩ | ⟨hb2, hp⟩
      · omega
      · obtain ⟨h3, cur, t, h4, h5⟩ := hI.own b x p h hr hp
        exact ⟨h3, cur, t, by rw [heap b p hb2 hp]; exact h4, h5⟩
  · split at h
    · rename_i hb
      rcases oinv b p hp with ⟨_, hp⟩ | ⟨hb2, _⟩
      · rcases oinv c q hq with ⟨hcm, hq⟩ | ⟨hcm, hq⟩
        · refine h2.apart b c x p q h hr hne ?_ hp hq
          rcases hc with hc | hc
          · exact .inl hc
          · rw [if_pos hcm] at hc; exact .inr hc
        · exact fun e => (h2.own b x p h hr hp).1 (.inr ⟨c, q, by omega, hq, e.symm⟩)
      · omega
    · rename_i hb
      rcases oinv b p hp with ⟨hb2, _⟩ | ⟨hb2, hp⟩
      · omega
      · rcases oinv c q hq with ⟨hcm, hq⟩ | ⟨hcm, hq⟩
        · by_cases hcR : c < R
          · obtain ⟨q', hq'⟩ := hR c hcR
            have := hle c q' (by rw [low_eq (by omega)]; exact hq')
            rw [hq] at this; cases this
            exact hI.apart b c x p q h hr hne (.inl hcR) hp hq'
          · have hc' : G2 c ≠ none := by
              rcases hc with hc | hc
              · exact absurd hc hcR
              · rw [if_pos hcm] at hc; exact hc
            obtain ⟨y, hy⟩ := Option.ne_none_iff_exists'.1 hc'
            exact fun e => (h2.own c y q hy (by omega) hq).1 (.inr ⟨b, p, by omega, hp, e⟩)
        · refine hI.apart b c x p q h hr hne ?_ hp hq
          rcases hc with hc | hc
          · exact .inl hc
          · rw [if_neg (by omega)] at hc; exact .inr hc
  · exact Nat.lt_of_lt_of_le (hI.prot k hk) hK.size
end Go.Ab

/- Regions that draw their order: whatever the order is. -/
set_option linter.unusedVariables false
set_option linter.unusedSimpArgs false
namespace Go.Ab

theorem acallee_cls {T : Tab} {a : Act} {op : Op} {r : FuncId × List Value} (h : acallee T a op = some r) : cls op = .eff := by
  unfold acallee at h
  split at h
  · rfl
  · cases h

structure Trc (T : Tab) (F : CallF) (ops : Array Oper) (st : Nat → St) (val : Nat → Value) : Prop where
  yes : ∀ i o, ops[i]? = some o → Region.wanted o (yielded ops (st i).a.tmps) = true → astep T F (st i).a o (st i).H = some (val i, (st (i + 1)).H)
  no : ∀ i o, ops[i]? = some o → Region.wanted o (yielded ops (st i).a.tmps) = false → val i = undef ∧ (st (i + 1)).H = (st i).H
  act : ∀ i o, ops[i]? = some o → (st (i + 1)).a = (st i).a.put o.dst (val i)
/-- It comes up, and is of this class. -/
def Is (ops : Array Oper) (st : Nat → St) (c : Cls) (i : Nat) : Prop := ∃ o, ops[i]? = some o ∧ Region.wanted o (yielded ops (st i).a.tmps) = true ∧ cls o.op = c

section
variable {T : Tab} {F : CallF} {ops : Array Oper} {st : Nat → St} {val : Nat → Value} (hT : Trc T F ops st val) (hF : FGrow F)
include hT

theorem Trc.pure {i : Nat} (hi : i < ops.size) (h1 : ¬ Is ops st .eff i) (h2 : ¬ Is ops st .make i) : (st (i + 1)).H = (st i).H := by
  obtain ⟨o, ho⟩ : ∃ o, ops[i]? = some o := ⟨_, Array.getElem?_eq_getElem hi⟩
  cases hw : Region.wanted o (yielded ops (st i).a.tmps) with
  | false => exact (hT.no i o ho hw).2
  | true =>
    have hs := hT.yes i o ho hw
    unfold astep at hs
    split at hs
    · rename_i hc; exact absurd ⟨o, ho, hw, acallee_cls hc⟩ h1
    · unfold aop at hs
      split at hs
      · exact (keep_inv hs).2
      · exact (keep_inv hs).2
      · rename_i hc; exact absurd ⟨o, ho, hw, hc⟩ h2
      · rename_i hc; exact absurd ⟨o, ho, hw, hc⟩ h1
theorem Trc.make {i : Nat} (h : Is ops st .make i) : ∃ o xs, ops[i]? = some o ∧ amakes T (st i).a o.op (st i).H.size = some (val i, xs) ∧ (st (i + 1)).H = (st i).H.push xs := by
  obtain ⟨o, ho, hw, hc⟩ := h
  have hs := hT.yes i o ho hw
  unfold astep at hs
  split at hs
  · rename_i hc2; rw [acallee_cls hc2] at hc; cases hc
  · unfold aop at hs
    rw [hc] at hs
    obtain ⟨xs, h1, h2⟩ := anew_inv hs
    exact ⟨o, xs, ho, h1, h2⟩
include hF
theorem Trc.grow {i : Nat} (hi : i < ops.size) : Grow (st i).H (st (i + 1)).H := by
  obtain ⟨o, ho⟩ : ∃ o, ops[i]? = some o := ⟨_, Array.getElem?_eq_getElem hi⟩
  cases hw : Region.wanted o (yielded ops (st i).a.tmps) with
  | false => rw [(hT.no i o ho hw).2]; exact Grow.refl _
  | true => exact astep_grow hF (hT.yes i o ho hw)
theorem Trc.growTo {i : Nat} : ∀ k, i + k ≤ ops.size → Grow (st i).H (st (i + k)).H
  | 0, _ => Grow.refl _
  | k + 1, h => (Trc.growTo k (by omega)).trans (hT.grow hF (i := i + k) (by omega))
theorem Trc.mono {i j : Nat} (hij : i ≤ j) (hj : j ≤ ops.size) : Grow (st i).H (st j).H := by
  obtain ⟨k, rfl⟩ := Nat.exists_eq_add_of_le hij
  exact hT.growTo hF k hj
/-- Where nothing is written, what is there stays. -/
theorem Trc.quiet {i : Nat} : ∀ k, i + k ≤ ops.size → (∀ e, i ≤ e → e < i + k → ¬ Is ops st .eff e) → ∀ b, b < (st i).H.size → (st (i + k)).H.get b = (st i).H.get b
  | 0, _, _, b, _ => rfl
  | k + 1, h, hn, b, hb => by
    have ih := Trc.quiet k (by omega) (fun e h1 h2 => hn e h1 (by omega)) b hb
    have hg := (hT.growTo hF (i := i) k (by omega)).1
    rw [← ih]
    by_cases hm : Is ops st .make (i + k)
    · obtain ⟨o, xs, _, _, e⟩ := hT.make hm
      rw [show i + (k + 1) = i + k + 1 from rfl, e, AH.get_push, if_neg (by omega)]
    · rw [show i + (k + 1) = i + k + 1 from rfl, hT.pure (by omega) (hn (i + k) (by omega) (by omega)) hm]
theorem Trc.quietTo {i j : Nat} (hij : i ≤ j) (hj : j ≤ ops.size) (hn : ∀ e, i ≤ e → e < j → ¬ Is ops st .eff e) {b : Nat} (hb : b < (st i).H.size) : (st j).H.get b = (st i).H.get b := by
  obtain ⟨k, rfl⟩ := Nat.exists_eq_add_of_le hij
  exact hT.quiet hF k hj hn b hb
omit hF in
/-- What is new where nothing is written was made there. -/
theorem Trc.made {i : Nat} : ∀ k, i + k ≤ ops.size → (∀ e, i ≤ e → e < i + k → ¬ Is ops st .eff e) → ∀ b, (st i).H.size ≤ b → b < (st (i + k)).H.size → ∃ j, i ≤ j ∧ j < i + k ∧ Is ops st .make j ∧ (st j).H.size = b
  | 0, _, _, b, h1, h2 => by simp at h2; omega
  | k + 1, h, hn, b, h1, h2 => by
    by_cases hb : b < (st (i + k)).H.size
    · obtain ⟨j, a1, a2, a3, a4⟩ := Trc.made k (by omega) (fun e h1 h2 => hn e h1 (by omega)) b h1 hb
      exact ⟨j, a1, by omega, a3, a4⟩
    · by_cases hm : Is ops st .make (i + k)
      · obtain ⟨o, xs, _, _, e⟩ := hT.make hm
        rw [show i + (k + 1) = i + k + 1 from rfl, e] at h2
        simp at h2
        exact ⟨i + k, by omega, by omega, hm, by omega⟩
      · rw [show i + (k + 1) = i + k + 1 from rfl, hT.pure (by omega) (hn (i + k) (by omega) (by omega)) hm] at h2
        omega
theorem Trc.sizeMake {j k : Nat} (hm : Is ops st .make j) (hjk : j < k) (hk : k ≤ ops.size) : (st j).H.size < (st k).H.size := by
  obtain ⟨o, xs, _, _, e⟩ := hT.make hm
  have := (hT.mono hF (show j + 1 ≤ k from hjk) hk).1
  rw [e] at this
  simp at this
  omega
end

theorem Is.lt {ops : Array Oper} {st : Nat → St} {c : Cls} {i : Nat} (h : Is ops st c i) : i < ops.size := by
  obtain ⟨o, ho, _⟩ := h
  exact (Array.getElem?_eq_some_iff.1 ho).1

/-- What holds when those of L have come up. -/
structure Mid (T : Tab) (ops : Array Oper) (st : Nat → St) (val : Nat → Value) (pr : Nat → Prop) (φ0 : Phi) (w0 : World) (L : Nat → Prop) [DecidablePred L] (a' : Act) (w : World) (φ : Phi) (G : Nat → Option Blk) (pos : Nat) : Prop where
  frame : AR T φ (part ops val L (st 0).a ops.size) a'
  heap : InvG pr φ (st 0).H.ro G w
  le : φ0.le φ
  kept : Kept pr w0 w
  pos_le : pos ≤ ops.size
  effs : ∀ e, Is ops st .eff e → (L e ↔ e < pos)
  last : pos = 0 ∨ ∃ e, pos = e + 1 ∧ Is ops st .eff e
  low : ∀ b, b < (st pos).H.size → G b = (st pos).H.get b
  made : ∀ j, pos ≤ j → Is ops st .make j → L j → G (st j).H.size = (st (j + 1)).H.get (st j).H.size
  dom : ∀ b p, φ b = some p → b < (st pos).H.size ∨ ∃ j, pos ≤ j ∧ Is ops st .make j ∧ L j ∧ (st j).H.size = b
  rest : ∀ b, (st pos).H.size ≤ b → (¬ ∃ j, pos ≤ j ∧ Is ops st .make j ∧ L j ∧ (st j).H.size = b) → G b = none

theorem AR.congr {T : Tab} {φ : Phi} {a b a' : Act} (h : AR T φ a a') (hs : a.tmps.size = b.tmps.size) (he : ∀ d, slot a d = slot b d) : AR T φ b a' :=
  ⟨by rw [← hs]; exact h.size, fun t => by have := he t; unfold slot at this; rw [← this]; exact h.rel t, h.defers, h.glob⟩

theorem yielded_congr {ops : Array Oper} {a b : Act} (hs : a.tmps.size = b.tmps.size) {j : Nat} (h : ∀ t, (ops[j]?).bind (·.dst) = some t → slot a t = slot b t) : yielded ops a.tmps j = yielded ops b.tmps j := by
  unfold yielded
  cases hd : (ops[j]?).bind (·.dst) with
  | none => rfl
  | some t =>
    have he := h t hd
    unfold slot at he
    simp only [Option.bind_some]
    by_cases hl : t < a.tmps.size
    · have hl' : t < b.tmps.size := hs ▸ hl
      simp only [Array.getD_eq_getD_getElem?, Array.getElem?_eq_getElem hl, Array.getElem?_eq_getElem hl', Option.getD_some] at he ⊢
      rw [he]
    · have hl' : ¬ t < b.tmps.size := hs ▸ hl
      rw [Array.getElem?_eq_none (Nat.le_of_not_lt hl), Array.getElem?_eq_none (Nat.le_of_not_lt hl')]
theorem wanted_congr {ops : Array Oper} {o : Oper} {a b : Act} (hs : a.tmps.size = b.tmps.size) (h : ∀ d ∈ o.looksAt ops, slot a d = slot b d) : Region.wanted o (yielded ops a.tmps) = Region.wanted o (yielded ops b.tmps) := by
  unfold Region.wanted
  cases hg : o.guard with
  | none => rfl
  | some gw =>
    obtain ⟨g, want⟩ := gw
    simp only
    rw [yielded_congr hs fun t ht => h t (by simp [Oper.looksAt, hg, ht])]

/-- An operation of any class in the heap at hand. -/
theorem astep_run {P : Program} {T : Tab} (hTab : T.Ok P) {F : CallF} (hF : CallOk P T F) (hF2 : ∀ f vs H r, F f vs H = some r → ∃ fn c, P.funcs[f]? = some fn ∧ (fn.name == "runtime.NumGoroutine") = false ∧ fn.body = some c)
    {pr : Nat → Prop} {φ : Phi} {a a' : Act} {o : Oper} {H H' : AH} {w : World} {v : Value} (hI : Inv pr φ H w) (hE : ER T φ a a' o.op) (hg : ∀ g, T.glob g = true → ∃ c, φ g = some ⟨g, 0, c⟩) (h : astep T F a o H = some (v, H')) {K : Act → World → Prop} {Q : Exit → Act → World → Prop}
    (hK : ∀ v' w', Left pr φ H' w v v' w' → K (a'.put o.dst v') w') : o.wp P a' w K Q := by
  unfold astep at h
  split at h
  · rename_i f vs hc
    obtain ⟨vs', hr, hlv, hv⟩ := acallee_inv (P := P) hE hc (hF2 f vs H _ h) w
    unfold Oper.wp
    rw [hr, Oper.upon_enter]
    refine (hF f vs H v H' h pr φ w vs' hI hg hlv hv).mono fun e w' ⟨r', he, hL⟩ => ?_
    subst he
    exact hK r' w' hL
  · obtain ⟨r, w', v', hr, hrv, hL⟩ := aop_run hTab hI hE h
    unfold Oper.wp
    rw [hr]
    rcases hrv with rfl | ⟨rfl, rfl⟩
    · rw [Oper.upon_value]; exact hK v' w' hL
    · rw [Oper.upon_skip]; exact hK undef w' hL

theorem aload_congr {T : Tab} {t : TypeId} {x v : Value} {G G' : Nat → Option Blk} (h : aload T t x G = some v) (hG : ∀ b off, x = .pointer (some ⟨b, off, none⟩) → G b ≠ none → G' b = G b) : aload T t x G' = some v := by
  unfold aload at h ⊢
  split at h
  · rename_i b off
    split at h
    · rename_i i blk hi hb
      have := hG b off rfl (by rw [hb]; simp)
      rw [hb] at this
      simp only [hi, this]
      exact h
    · cases h
  · cases h
end Go.Ab
