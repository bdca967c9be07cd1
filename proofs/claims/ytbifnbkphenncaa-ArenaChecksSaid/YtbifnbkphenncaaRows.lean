/-
  No cell of these rows narrows 'for every input' (looked for: loops, veiled, ifaces, maps, wideKeys, modest, calm, conditions, laid).
  DERIVED. THE GIVEN ROWS OF THIS SEAT. 5 by the template 'for every input the law returns true; each argument reads behind the call as it read before'; 0 by the template 'total and deterministic' (their statements: YtbifnbkphenncaaTotals.lean).
  GIVEN WITH THE SEED: the statements are not yours to turn. If you find one false, say at which input.
  Laid BY PROGRAM, IN A SANDBOX (cutbox-rows.mjs): the forced cells as the released guide's own fill.sh prints them over the translation 6adb7fd52a2ae026… (all of the seat's roots in one cut). By AI agents, Wed Nov 11 2026. No macro, syntax, notation, axiom, sorry.
-/
import Derived.Test.YtbifnbkphenncaaChecked
import GoSem.Claim
import GoSem.ClaimJoined
import GoSem.ClaimMapViews
import Derived.JoinedTies
import Derived.KernelRfl
namespace Go.Proofs.Ytbifnbkphenncaa
/- THE CELL 'sum', in the pinned program and in every row, IS THE sha256 OF THE DUMP (.gsa) THAT YtbifnbkphenncaaProg.lean LOADS. Nothing in Lean hashes anything: it is a label: what it is worth is what the hold of that sum in a sandbox is worth. -/
noncomputable def Try.pinned : Pinned := { name := "ytbifnbkphenncaa", sum := "6adb7fd52a2ae02667698a0b173e26639d7a2ad0759e7ac4e8f1ce7991a962ee", checked := Try.checked }
namespace Rows
def none {H : Type} : Left H := { results := [], args := [] }

/-- 'graduslaw14.ArenaRows': WHATEVER THE INPUT: true; the input reads as it did. -/
def arenaRowsSpec : ChangeSpec := { name := "arenaRows", fn := fun _ => fun
  | [d] => { results := [.lit (.bool true)], args := [d] }
  | _ => none }
def arenaRowsRow : OpenClaim := { program := "ytbifnbkphenncaa", sum := "6adb7fd52a2ae02667698a0b173e26639d7a2ad0759e7ac4e8f1ce7991a962ee", func := "gradus/graduslaw14.ArenaRows", spec := "arenaRows", unfollowed := true, recurses := true, apart := false }
def ArenaRowsSaid : Prop := arenaRowsRow.holds Try.pinned (OpenSpec.ofChange arenaRowsSpec)

/-- ITS FALSE NEIGHBOUR: 'it returns false'. Refute it at one input. -/
def arenaRowsWrong : ChangeSpec := { name := "arenaRows", fn := fun _ => fun
  | [d] => { results := [.lit (.bool false)], args := [d] }
  | _ => none }
def ArenaRowsWrongFalsely : Prop := arenaRowsRow.holds Try.pinned (OpenSpec.ofChange arenaRowsWrong)

/-- 'graduslaw14.ArenaGaps': WHATEVER THE INPUT: true; the input reads as it did. -/
def arenaGapsSpec : ChangeSpec := { name := "arenaGaps", fn := fun _ => fun
  | [d] => { results := [.lit (.bool true)], args := [d] }
  | _ => none }
def arenaGapsRow : OpenClaim := { program := "ytbifnbkphenncaa", sum := "6adb7fd52a2ae02667698a0b173e26639d7a2ad0759e7ac4e8f1ce7991a962ee", func := "gradus/graduslaw14.ArenaGaps", spec := "arenaGaps", unfollowed := true, recurses := true, apart := false }
def ArenaGapsSaid : Prop := arenaGapsRow.holds Try.pinned (OpenSpec.ofChange arenaGapsSpec)

/-- ITS FALSE NEIGHBOUR: 'it returns false'. Refute it at one input. -/
def arenaGapsWrong : ChangeSpec := { name := "arenaGaps", fn := fun _ => fun
  | [d] => { results := [.lit (.bool false)], args := [d] }
  | _ => none }
def ArenaGapsWrongFalsely : Prop := arenaGapsRow.holds Try.pinned (OpenSpec.ofChange arenaGapsWrong)

/-- 'graduslaw14.ArenaPlaces': WHATEVER THE INPUT: true; the input reads as it did. -/
def arenaPlacesSpec : ChangeSpec := { name := "arenaPlaces", fn := fun _ => fun
  | [d] => { results := [.lit (.bool true)], args := [d] }
  | _ => none }
def arenaPlacesRow : OpenClaim := { program := "ytbifnbkphenncaa", sum := "6adb7fd52a2ae02667698a0b173e26639d7a2ad0759e7ac4e8f1ce7991a962ee", func := "gradus/graduslaw14.ArenaPlaces", spec := "arenaPlaces", unfollowed := true, recurses := true, apart := false }
def ArenaPlacesSaid : Prop := arenaPlacesRow.holds Try.pinned (OpenSpec.ofChange arenaPlacesSpec)

/-- ITS FALSE NEIGHBOUR: 'it returns false'. Refute it at one input. -/
def arenaPlacesWrong : ChangeSpec := { name := "arenaPlaces", fn := fun _ => fun
  | [d] => { results := [.lit (.bool false)], args := [d] }
  | _ => none }
def ArenaPlacesWrongFalsely : Prop := arenaPlacesRow.holds Try.pinned (OpenSpec.ofChange arenaPlacesWrong)

/-- 'graduslaw14.ArenaChecks': WHATEVER THE INPUT: true; the input reads as it did. -/
def arenaChecksSpec : ChangeSpec := { name := "arenaChecks", fn := fun _ => fun
  | [d] => { results := [.lit (.bool true)], args := [d] }
  | _ => none }
def arenaChecksRow : OpenClaim := { program := "ytbifnbkphenncaa", sum := "6adb7fd52a2ae02667698a0b173e26639d7a2ad0759e7ac4e8f1ce7991a962ee", func := "gradus/graduslaw14.ArenaChecks", spec := "arenaChecks", unfollowed := true, recurses := true, apart := false }
def ArenaChecksSaid : Prop := arenaChecksRow.holds Try.pinned (OpenSpec.ofChange arenaChecksSpec)

/-- ITS FALSE NEIGHBOUR: 'it returns false'. Refute it at one input. -/
def arenaChecksWrong : ChangeSpec := { name := "arenaChecks", fn := fun _ => fun
  | [d] => { results := [.lit (.bool false)], args := [d] }
  | _ => none }
def ArenaChecksWrongFalsely : Prop := arenaChecksRow.holds Try.pinned (OpenSpec.ofChange arenaChecksWrong)

/-- 'graduslaw14.ArenaApart': WHATEVER THE INPUT: true; the input reads as it did. -/
def arenaApartSpec : ChangeSpec := { name := "arenaApart", fn := fun _ => fun
  | [d] => { results := [.lit (.bool true)], args := [d] }
  | _ => none }
def arenaApartRow : OpenClaim := { program := "ytbifnbkphenncaa", sum := "6adb7fd52a2ae02667698a0b173e26639d7a2ad0759e7ac4e8f1ce7991a962ee", func := "gradus/graduslaw14.ArenaApart", spec := "arenaApart", unfollowed := true, recurses := true, apart := false }
def ArenaApartSaid : Prop := arenaApartRow.holds Try.pinned (OpenSpec.ofChange arenaApartSpec)

/-- ITS FALSE NEIGHBOUR: 'it returns false'. Refute it at one input. -/
def arenaApartWrong : ChangeSpec := { name := "arenaApart", fn := fun _ => fun
  | [d] => { results := [.lit (.bool false)], args := [d] }
  | _ => none }
def ArenaApartWrongFalsely : Prop := arenaApartRow.holds Try.pinned (OpenSpec.ofChange arenaApartWrong)

/- THE SECOND FORM. 'bulk': how many values and letters a reading holds, each counted each time it is reached (what is shared counts as often as it is met; a slice's spare places count too). A statement '..UptoSaid' is the law's where the arguments, and the package variables that the reading takes, are together of bulk at most 1048576: NARROWER than '..Said'. Prove '..Said' where nothing that the law and all that it calls make is longer than what came in: it says more and counts as full. Else prove '..UptoSaid'. A law counts once. -/
mutual
def uptoBulk {H : Type} : DataW H → Nat
  | .lit (.string bytes) => bytes.length + 1
  | .lit _ => 1
  | .nil => 1
  | .ptr d => uptoBulk d + 1
  | .slice elems spare => uptoBulkAll elems + uptoBulkAll spare + 1
  | .agg parts => uptoBulkAll parts + 1
  | .iface _ d => uptoBulk d + 1
  | .map entries => uptoBulkEntries entries + 1
  | .held _ => 1
def uptoBulkAll {H : Type} : List (DataW H) → Nat
  | [] => 0
  | d :: r => uptoBulk d + uptoBulkAll r
def uptoBulkEntries {H : Type} : List (Lit × DataW H) → Nat
  | [] => 0
  | x :: r => uptoBulkEntry x + uptoBulkEntries r
def uptoBulkEntry {H : Type} : Lit × DataW H → Nat
  | (.string bytes, d) => bytes.length + uptoBulk d + 1
  | (_, d) => uptoBulk d + 1
 end
def uptoSmall : (H : Type) → List (DataW H) → Bool := fun _ ds => decide (uptoBulkAll ds ≤ 1048576)
def OpenSpec.upto (s : _root_.Go.ChangeSpec) : _root_.Go.OpenSpec := { _root_.Go.OpenSpec.ofChange s with cond := some uptoSmall }

/-- 'graduslaw14.ArenaRows', WHERE WHAT IT READS IS OF BULK AT MOST 1048576: true; the input reads as it did. -/
def arenaRowsUptoRow : OpenClaim := { program := "ytbifnbkphenncaa", sum := "6adb7fd52a2ae02667698a0b173e26639d7a2ad0759e7ac4e8f1ce7991a962ee", func := "gradus/graduslaw14.ArenaRows", spec := "arenaRows", unfollowed := true, recurses := true, apart := false, narrowed := true }
def ArenaRowsUptoSaid : Prop := arenaRowsUptoRow.holds Try.pinned (OpenSpec.upto arenaRowsSpec)

/-- 'graduslaw14.ArenaGaps', WHERE WHAT IT READS IS OF BULK AT MOST 1048576: true; the input reads as it did. -/
def arenaGapsUptoRow : OpenClaim := { program := "ytbifnbkphenncaa", sum := "6adb7fd52a2ae02667698a0b173e26639d7a2ad0759e7ac4e8f1ce7991a962ee", func := "gradus/graduslaw14.ArenaGaps", spec := "arenaGaps", unfollowed := true, recurses := true, apart := false, narrowed := true }
def ArenaGapsUptoSaid : Prop := arenaGapsUptoRow.holds Try.pinned (OpenSpec.upto arenaGapsSpec)

/-- 'graduslaw14.ArenaPlaces', WHERE WHAT IT READS IS OF BULK AT MOST 1048576: true; the input reads as it did. -/
def arenaPlacesUptoRow : OpenClaim := { program := "ytbifnbkphenncaa", sum := "6adb7fd52a2ae02667698a0b173e26639d7a2ad0759e7ac4e8f1ce7991a962ee", func := "gradus/graduslaw14.ArenaPlaces", spec := "arenaPlaces", unfollowed := true, recurses := true, apart := false, narrowed := true }
def ArenaPlacesUptoSaid : Prop := arenaPlacesUptoRow.holds Try.pinned (OpenSpec.upto arenaPlacesSpec)

/-- 'graduslaw14.ArenaChecks', WHERE WHAT IT READS IS OF BULK AT MOST 1048576: true; the input reads as it did. -/
def arenaChecksUptoRow : OpenClaim := { program := "ytbifnbkphenncaa", sum := "6adb7fd52a2ae02667698a0b173e26639d7a2ad0759e7ac4e8f1ce7991a962ee", func := "gradus/graduslaw14.ArenaChecks", spec := "arenaChecks", unfollowed := true, recurses := true, apart := false, narrowed := true }
def ArenaChecksUptoSaid : Prop := arenaChecksUptoRow.holds Try.pinned (OpenSpec.upto arenaChecksSpec)

/-- 'graduslaw14.ArenaApart', WHERE WHAT IT READS IS OF BULK AT MOST 1048576: true; the input reads as it did. -/
def arenaApartUptoRow : OpenClaim := { program := "ytbifnbkphenncaa", sum := "6adb7fd52a2ae02667698a0b173e26639d7a2ad0759e7ac4e8f1ce7991a962ee", func := "gradus/graduslaw14.ArenaApart", spec := "arenaApart", unfollowed := true, recurses := true, apart := false, narrowed := true }
def ArenaApartUptoSaid : Prop := arenaApartUptoRow.holds Try.pinned (OpenSpec.upto arenaApartSpec)

end Rows
end Go.Proofs.Ytbifnbkphenncaa
