/-
  No cell of these rows narrows 'for every input' (looked for: loops, veiled, ifaces, maps, wideKeys, modest, calm, conditions, laid).
  DERIVED. THE GIVEN ROWS OF THIS SEAT. 19 by the template 'for every input the law returns true; each argument reads behind the call as it read before'; 0 by the template 'total and deterministic' (their statements: YtcbmnjhdeklkmaaTotals.lean).
  GIVEN WITH THE SEED: the statements are not yours to turn. If you find one false, say at which input.
  Laid BY PROGRAM, IN A SANDBOX (cutbox-rows.mjs): the forced cells as the released guide's own fill.sh prints them over the translation 8020d0f9f2ff77a9… (all of the seat's roots in one cut). By AI agents, Wed Nov 11 2026. No macro, syntax, notation, axiom, sorry.
-/
import Derived.Test.YtcbmnjhdeklkmaaChecked
import GoSem.Claim
import GoSem.ClaimJoined
import GoSem.ClaimMapViews
import Derived.JoinedTies
import Derived.KernelRfl
namespace Go.Proofs.Ytcbmnjhdeklkmaa
/- THE CELL 'sum', in the pinned program and in every row, IS THE sha256 OF THE DUMP (.gsa) THAT YtcbmnjhdeklkmaaProg.lean LOADS. Nothing in Lean hashes anything: it is a label: what it is worth is what the hold of that sum in a sandbox is worth. -/
noncomputable def Try.pinned : Pinned := { name := "ytcbmnjhdeklkmaa", sum := "8020d0f9f2ff77a90388648d8c8964f95221930fd0792a9d7143681acf5b6327", checked := Try.checked }
namespace Rows
def none {H : Type} : Left H := { results := [], args := [] }

/-- 'graduslaw6.KernelAny': WHATEVER THE INPUT: true; the input reads as it did. -/
def kernelAnySpec : ChangeSpec := { name := "kernelAny", fn := fun _ => fun
  | [d] => { results := [.lit (.bool true)], args := [d] }
  | _ => none }
def kernelAnyRow : OpenClaim := { program := "ytcbmnjhdeklkmaa", sum := "8020d0f9f2ff77a90388648d8c8964f95221930fd0792a9d7143681acf5b6327", func := "gradus/graduslaw6.KernelAny", spec := "kernelAny", unfollowed := true, recurses := true, apart := false }
def KernelAnySaid : Prop := kernelAnyRow.holds Try.pinned (OpenSpec.ofChange kernelAnySpec)

/-- ITS FALSE NEIGHBOUR: 'it returns false'. Refute it at one input. -/
def kernelAnyWrong : ChangeSpec := { name := "kernelAny", fn := fun _ => fun
  | [d] => { results := [.lit (.bool false)], args := [d] }
  | _ => none }
def KernelAnyWrongFalsely : Prop := kernelAnyRow.holds Try.pinned (OpenSpec.ofChange kernelAnyWrong)

/-- 'graduslaw6.KernelDims': WHATEVER THE INPUT: true; the input reads as it did. -/
def kernelDimsSpec : ChangeSpec := { name := "kernelDims", fn := fun _ => fun
  | [d] => { results := [.lit (.bool true)], args := [d] }
  | _ => none }
def kernelDimsRow : OpenClaim := { program := "ytcbmnjhdeklkmaa", sum := "8020d0f9f2ff77a90388648d8c8964f95221930fd0792a9d7143681acf5b6327", func := "gradus/graduslaw6.KernelDims", spec := "kernelDims", unfollowed := true, recurses := true, apart := false }
def KernelDimsSaid : Prop := kernelDimsRow.holds Try.pinned (OpenSpec.ofChange kernelDimsSpec)

/-- ITS FALSE NEIGHBOUR: 'it returns false'. Refute it at one input. -/
def kernelDimsWrong : ChangeSpec := { name := "kernelDims", fn := fun _ => fun
  | [d] => { results := [.lit (.bool false)], args := [d] }
  | _ => none }
def KernelDimsWrongFalsely : Prop := kernelDimsRow.holds Try.pinned (OpenSpec.ofChange kernelDimsWrong)

/-- 'graduslaw6.KernelIn': WHATEVER THE INPUT: true; the input reads as it did. -/
def kernelInSpec : ChangeSpec := { name := "kernelIn", fn := fun _ => fun
  | [d] => { results := [.lit (.bool true)], args := [d] }
  | _ => none }
def kernelInRow : OpenClaim := { program := "ytcbmnjhdeklkmaa", sum := "8020d0f9f2ff77a90388648d8c8964f95221930fd0792a9d7143681acf5b6327", func := "gradus/graduslaw6.KernelIn", spec := "kernelIn", unfollowed := true, recurses := true, apart := false }
def KernelInSaid : Prop := kernelInRow.holds Try.pinned (OpenSpec.ofChange kernelInSpec)

/-- ITS FALSE NEIGHBOUR: 'it returns false'. Refute it at one input. -/
def kernelInWrong : ChangeSpec := { name := "kernelIn", fn := fun _ => fun
  | [d] => { results := [.lit (.bool false)], args := [d] }
  | _ => none }
def KernelInWrongFalsely : Prop := kernelInRow.holds Try.pinned (OpenSpec.ofChange kernelInWrong)

/-- 'graduslaw6.KernelParam': WHATEVER THE INPUT: true; the input reads as it did. -/
def kernelParamSpec : ChangeSpec := { name := "kernelParam", fn := fun _ => fun
  | [d] => { results := [.lit (.bool true)], args := [d] }
  | _ => none }
def kernelParamRow : OpenClaim := { program := "ytcbmnjhdeklkmaa", sum := "8020d0f9f2ff77a90388648d8c8964f95221930fd0792a9d7143681acf5b6327", func := "gradus/graduslaw6.KernelParam", spec := "kernelParam", unfollowed := true, recurses := true, apart := false }
def KernelParamSaid : Prop := kernelParamRow.holds Try.pinned (OpenSpec.ofChange kernelParamSpec)

/-- ITS FALSE NEIGHBOUR: 'it returns false'. Refute it at one input. -/
def kernelParamWrong : ChangeSpec := { name := "kernelParam", fn := fun _ => fun
  | [d] => { results := [.lit (.bool false)], args := [d] }
  | _ => none }
def KernelParamWrongFalsely : Prop := kernelParamRow.holds Try.pinned (OpenSpec.ofChange kernelParamWrong)

/-- 'graduslaw6.KernelFill': WHATEVER THE INPUT: true; the input reads as it did. -/
def kernelFillSpec : ChangeSpec := { name := "kernelFill", fn := fun _ => fun
  | [d] => { results := [.lit (.bool true)], args := [d] }
  | _ => none }
def kernelFillRow : OpenClaim := { program := "ytcbmnjhdeklkmaa", sum := "8020d0f9f2ff77a90388648d8c8964f95221930fd0792a9d7143681acf5b6327", func := "gradus/graduslaw6.KernelFill", spec := "kernelFill", unfollowed := true, recurses := true, apart := false }
def KernelFillSaid : Prop := kernelFillRow.holds Try.pinned (OpenSpec.ofChange kernelFillSpec)

/-- ITS FALSE NEIGHBOUR: 'it returns false'. Refute it at one input. -/
def kernelFillWrong : ChangeSpec := { name := "kernelFill", fn := fun _ => fun
  | [d] => { results := [.lit (.bool false)], args := [d] }
  | _ => none }
def KernelFillWrongFalsely : Prop := kernelFillRow.holds Try.pinned (OpenSpec.ofChange kernelFillWrong)

/-- 'graduslaw6.KernelAdd': WHATEVER THE INPUT: true; the input reads as it did. -/
def kernelAddSpec : ChangeSpec := { name := "kernelAdd", fn := fun _ => fun
  | [d] => { results := [.lit (.bool true)], args := [d] }
  | _ => none }
def kernelAddRow : OpenClaim := { program := "ytcbmnjhdeklkmaa", sum := "8020d0f9f2ff77a90388648d8c8964f95221930fd0792a9d7143681acf5b6327", func := "gradus/graduslaw6.KernelAdd", spec := "kernelAdd", unfollowed := true, recurses := true, apart := false }
def KernelAddSaid : Prop := kernelAddRow.holds Try.pinned (OpenSpec.ofChange kernelAddSpec)

/-- ITS FALSE NEIGHBOUR: 'it returns false'. Refute it at one input. -/
def kernelAddWrong : ChangeSpec := { name := "kernelAdd", fn := fun _ => fun
  | [d] => { results := [.lit (.bool false)], args := [d] }
  | _ => none }
def KernelAddWrongFalsely : Prop := kernelAddRow.holds Try.pinned (OpenSpec.ofChange kernelAddWrong)

/-- 'graduslaw6.KernelSub': WHATEVER THE INPUT: true; the input reads as it did. -/
def kernelSubSpec : ChangeSpec := { name := "kernelSub", fn := fun _ => fun
  | [d] => { results := [.lit (.bool true)], args := [d] }
  | _ => none }
def kernelSubRow : OpenClaim := { program := "ytcbmnjhdeklkmaa", sum := "8020d0f9f2ff77a90388648d8c8964f95221930fd0792a9d7143681acf5b6327", func := "gradus/graduslaw6.KernelSub", spec := "kernelSub", unfollowed := true, recurses := true, apart := false }
def KernelSubSaid : Prop := kernelSubRow.holds Try.pinned (OpenSpec.ofChange kernelSubSpec)

/-- ITS FALSE NEIGHBOUR: 'it returns false'. Refute it at one input. -/
def kernelSubWrong : ChangeSpec := { name := "kernelSub", fn := fun _ => fun
  | [d] => { results := [.lit (.bool false)], args := [d] }
  | _ => none }
def KernelSubWrongFalsely : Prop := kernelSubRow.holds Try.pinned (OpenSpec.ofChange kernelSubWrong)

/-- 'graduslaw6.KernelMul': WHATEVER THE INPUT: true; the input reads as it did. -/
def kernelMulSpec : ChangeSpec := { name := "kernelMul", fn := fun _ => fun
  | [d] => { results := [.lit (.bool true)], args := [d] }
  | _ => none }
def kernelMulRow : OpenClaim := { program := "ytcbmnjhdeklkmaa", sum := "8020d0f9f2ff77a90388648d8c8964f95221930fd0792a9d7143681acf5b6327", func := "gradus/graduslaw6.KernelMul", spec := "kernelMul", unfollowed := true, recurses := true, apart := false }
def KernelMulSaid : Prop := kernelMulRow.holds Try.pinned (OpenSpec.ofChange kernelMulSpec)

/-- ITS FALSE NEIGHBOUR: 'it returns false'. Refute it at one input. -/
def kernelMulWrong : ChangeSpec := { name := "kernelMul", fn := fun _ => fun
  | [d] => { results := [.lit (.bool false)], args := [d] }
  | _ => none }
def KernelMulWrongFalsely : Prop := kernelMulRow.holds Try.pinned (OpenSpec.ofChange kernelMulWrong)

/-- 'graduslaw6.KernelNeg': WHATEVER THE INPUT: true; the input reads as it did. -/
def kernelNegSpec : ChangeSpec := { name := "kernelNeg", fn := fun _ => fun
  | [d] => { results := [.lit (.bool true)], args := [d] }
  | _ => none }
def kernelNegRow : OpenClaim := { program := "ytcbmnjhdeklkmaa", sum := "8020d0f9f2ff77a90388648d8c8964f95221930fd0792a9d7143681acf5b6327", func := "gradus/graduslaw6.KernelNeg", spec := "kernelNeg", unfollowed := true, recurses := true, apart := false }
def KernelNegSaid : Prop := kernelNegRow.holds Try.pinned (OpenSpec.ofChange kernelNegSpec)

/-- ITS FALSE NEIGHBOUR: 'it returns false'. Refute it at one input. -/
def kernelNegWrong : ChangeSpec := { name := "kernelNeg", fn := fun _ => fun
  | [d] => { results := [.lit (.bool false)], args := [d] }
  | _ => none }
def KernelNegWrongFalsely : Prop := kernelNegRow.holds Try.pinned (OpenSpec.ofChange kernelNegWrong)

/-- 'graduslaw6.KernelScale': WHATEVER THE INPUT: true; the input reads as it did. -/
def kernelScaleSpec : ChangeSpec := { name := "kernelScale", fn := fun _ => fun
  | [d] => { results := [.lit (.bool true)], args := [d] }
  | _ => none }
def kernelScaleRow : OpenClaim := { program := "ytcbmnjhdeklkmaa", sum := "8020d0f9f2ff77a90388648d8c8964f95221930fd0792a9d7143681acf5b6327", func := "gradus/graduslaw6.KernelScale", spec := "kernelScale", unfollowed := true, recurses := true, apart := false }
def KernelScaleSaid : Prop := kernelScaleRow.holds Try.pinned (OpenSpec.ofChange kernelScaleSpec)

/-- ITS FALSE NEIGHBOUR: 'it returns false'. Refute it at one input. -/
def kernelScaleWrong : ChangeSpec := { name := "kernelScale", fn := fun _ => fun
  | [d] => { results := [.lit (.bool false)], args := [d] }
  | _ => none }
def KernelScaleWrongFalsely : Prop := kernelScaleRow.holds Try.pinned (OpenSpec.ofChange kernelScaleWrong)

/-- 'graduslaw6.KernelMat': WHATEVER THE INPUT: true; the input reads as it did. -/
def kernelMatSpec : ChangeSpec := { name := "kernelMat", fn := fun _ => fun
  | [d] => { results := [.lit (.bool true)], args := [d] }
  | _ => none }
def kernelMatRow : OpenClaim := { program := "ytcbmnjhdeklkmaa", sum := "8020d0f9f2ff77a90388648d8c8964f95221930fd0792a9d7143681acf5b6327", func := "gradus/graduslaw6.KernelMat", spec := "kernelMat", unfollowed := true, recurses := true, apart := false }
def KernelMatSaid : Prop := kernelMatRow.holds Try.pinned (OpenSpec.ofChange kernelMatSpec)

/-- ITS FALSE NEIGHBOUR: 'it returns false'. Refute it at one input. -/
def kernelMatWrong : ChangeSpec := { name := "kernelMat", fn := fun _ => fun
  | [d] => { results := [.lit (.bool false)], args := [d] }
  | _ => none }
def KernelMatWrongFalsely : Prop := kernelMatRow.holds Try.pinned (OpenSpec.ofChange kernelMatWrong)

/-- 'graduslaw6.KernelTurn': WHATEVER THE INPUT: true; the input reads as it did. -/
def kernelTurnSpec : ChangeSpec := { name := "kernelTurn", fn := fun _ => fun
  | [d] => { results := [.lit (.bool true)], args := [d] }
  | _ => none }
def kernelTurnRow : OpenClaim := { program := "ytcbmnjhdeklkmaa", sum := "8020d0f9f2ff77a90388648d8c8964f95221930fd0792a9d7143681acf5b6327", func := "gradus/graduslaw6.KernelTurn", spec := "kernelTurn", unfollowed := true, recurses := true, apart := false }
def KernelTurnSaid : Prop := kernelTurnRow.holds Try.pinned (OpenSpec.ofChange kernelTurnSpec)

/-- ITS FALSE NEIGHBOUR: 'it returns false'. Refute it at one input. -/
def kernelTurnWrong : ChangeSpec := { name := "kernelTurn", fn := fun _ => fun
  | [d] => { results := [.lit (.bool false)], args := [d] }
  | _ => none }
def KernelTurnWrongFalsely : Prop := kernelTurnRow.holds Try.pinned (OpenSpec.ofChange kernelTurnWrong)

/-- 'graduslaw6.KernelShape': WHATEVER THE INPUT: true; the input reads as it did. -/
def kernelShapeSpec : ChangeSpec := { name := "kernelShape", fn := fun _ => fun
  | [d] => { results := [.lit (.bool true)], args := [d] }
  | _ => none }
def kernelShapeRow : OpenClaim := { program := "ytcbmnjhdeklkmaa", sum := "8020d0f9f2ff77a90388648d8c8964f95221930fd0792a9d7143681acf5b6327", func := "gradus/graduslaw6.KernelShape", spec := "kernelShape", unfollowed := true, recurses := true, apart := false }
def KernelShapeSaid : Prop := kernelShapeRow.holds Try.pinned (OpenSpec.ofChange kernelShapeSpec)

/-- ITS FALSE NEIGHBOUR: 'it returns false'. Refute it at one input. -/
def kernelShapeWrong : ChangeSpec := { name := "kernelShape", fn := fun _ => fun
  | [d] => { results := [.lit (.bool false)], args := [d] }
  | _ => none }
def KernelShapeWrongFalsely : Prop := kernelShapeRow.holds Try.pinned (OpenSpec.ofChange kernelShapeWrong)

/-- 'graduslaw6.KernelWide': WHATEVER THE INPUT: true; the input reads as it did. -/
def kernelWideSpec : ChangeSpec := { name := "kernelWide", fn := fun _ => fun
  | [d] => { results := [.lit (.bool true)], args := [d] }
  | _ => none }
def kernelWideRow : OpenClaim := { program := "ytcbmnjhdeklkmaa", sum := "8020d0f9f2ff77a90388648d8c8964f95221930fd0792a9d7143681acf5b6327", func := "gradus/graduslaw6.KernelWide", spec := "kernelWide", unfollowed := true, recurses := true, apart := false }
def KernelWideSaid : Prop := kernelWideRow.holds Try.pinned (OpenSpec.ofChange kernelWideSpec)

/-- ITS FALSE NEIGHBOUR: 'it returns false'. Refute it at one input. -/
def kernelWideWrong : ChangeSpec := { name := "kernelWide", fn := fun _ => fun
  | [d] => { results := [.lit (.bool false)], args := [d] }
  | _ => none }
def KernelWideWrongFalsely : Prop := kernelWideRow.holds Try.pinned (OpenSpec.ofChange kernelWideWrong)

/-- 'graduslaw6.KernelSum': WHATEVER THE INPUT: true; the input reads as it did. -/
def kernelSumSpec : ChangeSpec := { name := "kernelSum", fn := fun _ => fun
  | [d] => { results := [.lit (.bool true)], args := [d] }
  | _ => none }
def kernelSumRow : OpenClaim := { program := "ytcbmnjhdeklkmaa", sum := "8020d0f9f2ff77a90388648d8c8964f95221930fd0792a9d7143681acf5b6327", func := "gradus/graduslaw6.KernelSum", spec := "kernelSum", unfollowed := true, recurses := true, apart := false }
def KernelSumSaid : Prop := kernelSumRow.holds Try.pinned (OpenSpec.ofChange kernelSumSpec)

/-- ITS FALSE NEIGHBOUR: 'it returns false'. Refute it at one input. -/
def kernelSumWrong : ChangeSpec := { name := "kernelSum", fn := fun _ => fun
  | [d] => { results := [.lit (.bool false)], args := [d] }
  | _ => none }
def KernelSumWrongFalsely : Prop := kernelSumRow.holds Try.pinned (OpenSpec.ofChange kernelSumWrong)

/-- 'graduslaw6.KernelRelu': WHATEVER THE INPUT: true; the input reads as it did. -/
def kernelReluSpec : ChangeSpec := { name := "kernelRelu", fn := fun _ => fun
  | [d] => { results := [.lit (.bool true)], args := [d] }
  | _ => none }
def kernelReluRow : OpenClaim := { program := "ytcbmnjhdeklkmaa", sum := "8020d0f9f2ff77a90388648d8c8964f95221930fd0792a9d7143681acf5b6327", func := "gradus/graduslaw6.KernelRelu", spec := "kernelRelu", unfollowed := true, recurses := true, apart := false }
def KernelReluSaid : Prop := kernelReluRow.holds Try.pinned (OpenSpec.ofChange kernelReluSpec)

/-- ITS FALSE NEIGHBOUR: 'it returns false'. Refute it at one input. -/
def kernelReluWrong : ChangeSpec := { name := "kernelRelu", fn := fun _ => fun
  | [d] => { results := [.lit (.bool false)], args := [d] }
  | _ => none }
def KernelReluWrongFalsely : Prop := kernelReluRow.holds Try.pinned (OpenSpec.ofChange kernelReluWrong)

/-- 'graduslaw6.KernelMax': WHATEVER THE INPUT: true; the input reads as it did. -/
def kernelMaxSpec : ChangeSpec := { name := "kernelMax", fn := fun _ => fun
  | [d] => { results := [.lit (.bool true)], args := [d] }
  | _ => none }
def kernelMaxRow : OpenClaim := { program := "ytcbmnjhdeklkmaa", sum := "8020d0f9f2ff77a90388648d8c8964f95221930fd0792a9d7143681acf5b6327", func := "gradus/graduslaw6.KernelMax", spec := "kernelMax", unfollowed := true, recurses := true, apart := false }
def KernelMaxSaid : Prop := kernelMaxRow.holds Try.pinned (OpenSpec.ofChange kernelMaxSpec)

/-- ITS FALSE NEIGHBOUR: 'it returns false'. Refute it at one input. -/
def kernelMaxWrong : ChangeSpec := { name := "kernelMax", fn := fun _ => fun
  | [d] => { results := [.lit (.bool false)], args := [d] }
  | _ => none }
def KernelMaxWrongFalsely : Prop := kernelMaxRow.holds Try.pinned (OpenSpec.ofChange kernelMaxWrong)

/-- 'graduslaw6.KernelStep': WHATEVER THE INPUT: true; the input reads as it did. -/
def kernelStepSpec : ChangeSpec := { name := "kernelStep", fn := fun _ => fun
  | [d] => { results := [.lit (.bool true)], args := [d] }
  | _ => none }
def kernelStepRow : OpenClaim := { program := "ytcbmnjhdeklkmaa", sum := "8020d0f9f2ff77a90388648d8c8964f95221930fd0792a9d7143681acf5b6327", func := "gradus/graduslaw6.KernelStep", spec := "kernelStep", unfollowed := true, recurses := true, apart := false }
def KernelStepSaid : Prop := kernelStepRow.holds Try.pinned (OpenSpec.ofChange kernelStepSpec)

/-- ITS FALSE NEIGHBOUR: 'it returns false'. Refute it at one input. -/
def kernelStepWrong : ChangeSpec := { name := "kernelStep", fn := fun _ => fun
  | [d] => { results := [.lit (.bool false)], args := [d] }
  | _ => none }
def KernelStepWrongFalsely : Prop := kernelStepRow.holds Try.pinned (OpenSpec.ofChange kernelStepWrong)

/-- 'graduslaw6.KernelPick': WHATEVER THE INPUT: true; the input reads as it did. -/
def kernelPickSpec : ChangeSpec := { name := "kernelPick", fn := fun _ => fun
  | [d] => { results := [.lit (.bool true)], args := [d] }
  | _ => none }
def kernelPickRow : OpenClaim := { program := "ytcbmnjhdeklkmaa", sum := "8020d0f9f2ff77a90388648d8c8964f95221930fd0792a9d7143681acf5b6327", func := "gradus/graduslaw6.KernelPick", spec := "kernelPick", unfollowed := true, recurses := true, apart := false }
def KernelPickSaid : Prop := kernelPickRow.holds Try.pinned (OpenSpec.ofChange kernelPickSpec)

/-- ITS FALSE NEIGHBOUR: 'it returns false'. Refute it at one input. -/
def kernelPickWrong : ChangeSpec := { name := "kernelPick", fn := fun _ => fun
  | [d] => { results := [.lit (.bool false)], args := [d] }
  | _ => none }
def KernelPickWrongFalsely : Prop := kernelPickRow.holds Try.pinned (OpenSpec.ofChange kernelPickWrong)

/- THE SECOND FORM. 'bulk': how many values and letters a reading holds, each counted each time it is reached (what is shared counts as often as it is met; a slice's spare places count too). A statement '..UptoSaid' is the law's where the arguments, and the package variables that the reading takes, are together of bulk at most 1048576: NARROWER than '..Said'. Prove '..Said' where nothing that the law and all that it calls make is longer than what came in: it says more and counts as full. Else prove '..UptoSaid'. A law counts once. -/
mutual
def uptoBulk {H : Type} : DataW H → Nat
  | .lit (.string bytes) => bytes.length + 1
  | .lit _ => 1
  | .nil => 1
  | .ptr d => uptoBulk d + 1
  | .slice elems spare => uptoBulkAll elems + uptoBulkAll spare + 1
  | .agg parts => uptoBulkAll parts + 1
  | .iface _ d => uptoBulk d + 1
  | .map entries => uptoBulkEntries entries + 1
  | .held _ => 1
def uptoBulkAll {H : Type} : List (DataW H) → Nat
  | [] => 0
  | d :: r => uptoBulk d + uptoBulkAll r
def uptoBulkEntries {H : Type} : List (Lit × DataW H) → Nat
  | [] => 0
  | x :: r => uptoBulkEntry x + uptoBulkEntries r
def uptoBulkEntry {H : Type} : Lit × DataW H → Nat
  | (.string bytes, d) => bytes.length + uptoBulk d + 1
  | (_, d) => uptoBulk d + 1
 end
def uptoSmall : (H : Type) → List (DataW H) → Bool := fun _ ds => decide (uptoBulkAll ds ≤ 1048576)
def OpenSpec.upto (s : _root_.Go.ChangeSpec) : _root_.Go.OpenSpec := { _root_.Go.OpenSpec.ofChange s with cond := some uptoSmall }

/-- 'graduslaw6.KernelAny', WHERE WHAT IT READS IS OF BULK AT MOST 1048576: true; the input reads as it did. -/
def kernelAnyUptoRow : OpenClaim := { program := "ytcbmnjhdeklkmaa", sum := "8020d0f9f2ff77a90388648d8c8964f95221930fd0792a9d7143681acf5b6327", func := "gradus/graduslaw6.KernelAny", spec := "kernelAny", unfollowed := true, recurses := true, apart := false, narrowed := true }
def KernelAnyUptoSaid : Prop := kernelAnyUptoRow.holds Try.pinned (OpenSpec.upto kernelAnySpec)

/-- 'graduslaw6.KernelDims', WHERE WHAT IT READS IS OF BULK AT MOST 1048576: true; the input reads as it did. -/
def kernelDimsUptoRow : OpenClaim := { program := "ytcbmnjhdeklkmaa", sum := "8020d0f9f2ff77a90388648d8c8964f95221930fd0792a9d7143681acf5b6327", func := "gradus/graduslaw6.KernelDims", spec := "kernelDims", unfollowed := true, recurses := true, apart := false, narrowed := true }
def KernelDimsUptoSaid : Prop := kernelDimsUptoRow.holds Try.pinned (OpenSpec.upto kernelDimsSpec)

/-- 'graduslaw6.KernelIn', WHERE WHAT IT READS IS OF BULK AT MOST 1048576: true; the input reads as it did. -/
def kernelInUptoRow : OpenClaim := { program := "ytcbmnjhdeklkmaa", sum := "8020d0f9f2ff77a90388648d8c8964f95221930fd0792a9d7143681acf5b6327", func := "gradus/graduslaw6.KernelIn", spec := "kernelIn", unfollowed := true, recurses := true, apart := false, narrowed := true }
def KernelInUptoSaid : Prop := kernelInUptoRow.holds Try.pinned (OpenSpec.upto kernelInSpec)

/-- 'graduslaw6.KernelParam', WHERE WHAT IT READS IS OF BULK AT MOST 1048576: true; the input reads as it did. -/
def kernelParamUptoRow : OpenClaim := { program := "ytcbmnjhdeklkmaa", sum := "8020d0f9f2ff77a90388648d8c8964f95221930fd0792a9d7143681acf5b6327", func := "gradus/graduslaw6.KernelParam", spec := "kernelParam", unfollowed := true, recurses := true, apart := false, narrowed := true }
def KernelParamUptoSaid : Prop := kernelParamUptoRow.holds Try.pinned (OpenSpec.upto kernelParamSpec)

/-- 'graduslaw6.KernelFill', WHERE WHAT IT READS IS OF BULK AT MOST 1048576: true; the input reads as it did. -/
def kernelFillUptoRow : OpenClaim := { program := "ytcbmnjhdeklkmaa", sum := "8020d0f9f2ff77a90388648d8c8964f95221930fd0792a9d7143681acf5b6327", func := "gradus/graduslaw6.KernelFill", spec := "kernelFill", unfollowed := true, recurses := true, apart := false, narrowed := true }
def KernelFillUptoSaid : Prop := kernelFillUptoRow.holds Try.pinned (OpenSpec.upto kernelFillSpec)

/-- 'graduslaw6.KernelAdd', WHERE WHAT IT READS IS OF BULK AT MOST 1048576: true; the input reads as it did. -/
def kernelAddUptoRow : OpenClaim := { program := "ytcbmnjhdeklkmaa", sum := "8020d0f9f2ff77a90388648d8c8964f95221930fd0792a9d7143681acf5b6327", func := "gradus/graduslaw6.KernelAdd", spec := "kernelAdd", unfollowed := true, recurses := true, apart := false, narrowed := true }
def KernelAddUptoSaid : Prop := kernelAddUptoRow.holds Try.pinned (OpenSpec.upto kernelAddSpec)

/-- 'graduslaw6.KernelSub', WHERE WHAT IT READS IS OF BULK AT MOST 1048576: true; the input reads as it did. -/
def kernelSubUptoRow : OpenClaim := { program := "ytcbmnjhdeklkmaa", sum := "8020d0f9f2ff77a90388648d8c8964f95221930fd0792a9d7143681acf5b6327", func := "gradus/graduslaw6.KernelSub", spec := "kernelSub", unfollowed := true, recurses := true, apart := false, narrowed := true }
def KernelSubUptoSaid : Prop := kernelSubUptoRow.holds Try.pinned (OpenSpec.upto kernelSubSpec)

/-- 'graduslaw6.KernelMul', WHERE WHAT IT READS IS OF BULK AT MOST 1048576: true; the input reads as it did. -/
def kernelMulUptoRow : OpenClaim := { program := "ytcbmnjhdeklkmaa", sum := "8020d0f9f2ff77a90388648d8c8964f95221930fd0792a9d7143681acf5b6327", func := "gradus/graduslaw6.KernelMul", spec := "kernelMul", unfollowed := true, recurses := true, apart := false, narrowed := true }
def KernelMulUptoSaid : Prop := kernelMulUptoRow.holds Try.pinned (OpenSpec.upto kernelMulSpec)

/-- 'graduslaw6.KernelNeg', WHERE WHAT IT READS IS OF BULK AT MOST 1048576: true; the input reads as it did. -/
def kernelNegUptoRow : OpenClaim := { program := "ytcbmnjhdeklkmaa", sum := "8020d0f9f2ff77a90388648d8c8964f95221930fd0792a9d7143681acf5b6327", func := "gradus/graduslaw6.KernelNeg", spec := "kernelNeg", unfollowed := true, recurses := true, apart := false, narrowed := true }
def KernelNegUptoSaid : Prop := kernelNegUptoRow.holds Try.pinned (OpenSpec.upto kernelNegSpec)

/-- 'graduslaw6.KernelScale', WHERE WHAT IT READS IS OF BULK AT MOST 1048576: true; the input reads as it did. -/
def kernelScaleUptoRow : OpenClaim := { program := "ytcbmnjhdeklkmaa", sum := "8020d0f9f2ff77a90388648d8c8964f95221930fd0792a9d7143681acf5b6327", func := "gradus/graduslaw6.KernelScale", spec := "kernelScale", unfollowed := true, recurses := true, apart := false, narrowed := true }
def KernelScaleUptoSaid : Prop := kernelScaleUptoRow.holds Try.pinned (OpenSpec.upto kernelScaleSpec)

/-- 'graduslaw6.KernelMat', WHERE WHAT IT READS IS OF BULK AT MOST 1048576: true; the input reads as it did. -/
def kernelMatUptoRow : OpenClaim := { program := "ytcbmnjhdeklkmaa", sum := "8020d0f9f2ff77a90388648d8c8964f95221930fd0792a9d7143681acf5b6327", func := "gradus/graduslaw6.KernelMat", spec := "kernelMat", unfollowed := true, recurses := true, apart := false, narrowed := true }
def KernelMatUptoSaid : Prop := kernelMatUptoRow.holds Try.pinned (OpenSpec.upto kernelMatSpec)

/-- 'graduslaw6.KernelTurn', WHERE WHAT IT READS IS OF BULK AT MOST 1048576: true; the input reads as it did. -/
def kernelTurnUptoRow : OpenClaim := { program := "ytcbmnjhdeklkmaa", sum := "8020d0f9f2ff77a90388648d8c8964f95221930fd0792a9d7143681acf5b6327", func := "gradus/graduslaw6.KernelTurn", spec := "kernelTurn", unfollowed := true, recurses := true, apart := false, narrowed := true }
def KernelTurnUptoSaid : Prop := kernelTurnUptoRow.holds Try.pinned (OpenSpec.upto kernelTurnSpec)

/-- 'graduslaw6.KernelShape', WHERE WHAT IT READS IS OF BULK AT MOST 1048576: true; the input reads as it did. -/
def kernelShapeUptoRow : OpenClaim := { program := "ytcbmnjhdeklkmaa", sum := "8020d0f9f2ff77a90388648d8c8964f95221930fd0792a9d7143681acf5b6327", func := "gradus/graduslaw6.KernelShape", spec := "kernelShape", unfollowed := true, recurses := true, apart := false, narrowed := true }
def KernelShapeUptoSaid : Prop := kernelShapeUptoRow.holds Try.pinned (OpenSpec.upto kernelShapeSpec)

/-- 'graduslaw6.KernelWide', WHERE WHAT IT READS IS OF BULK AT MOST 1048576: true; the input reads as it did. -/
def kernelWideUptoRow : OpenClaim := { program := "ytcbmnjhdeklkmaa", sum := "8020d0f9f2ff77a90388648d8c8964f95221930fd0792a9d7143681acf5b6327", func := "gradus/graduslaw6.KernelWide", spec := "kernelWide", unfollowed := true, recurses := true, apart := false, narrowed := true }
def KernelWideUptoSaid : Prop := kernelWideUptoRow.holds Try.pinned (OpenSpec.upto kernelWideSpec)

/-- 'graduslaw6.KernelSum', WHERE WHAT IT READS IS OF BULK AT MOST 1048576: true; the input reads as it did. -/
def kernelSumUptoRow : OpenClaim := { program := "ytcbmnjhdeklkmaa", sum := "8020d0f9f2ff77a90388648d8c8964f95221930fd0792a9d7143681acf5b6327", func := "gradus/graduslaw6.KernelSum", spec := "kernelSum", unfollowed := true, recurses := true, apart := false, narrowed := true }
def KernelSumUptoSaid : Prop := kernelSumUptoRow.holds Try.pinned (OpenSpec.upto kernelSumSpec)

/-- 'graduslaw6.KernelRelu', WHERE WHAT IT READS IS OF BULK AT MOST 1048576: true; the input reads as it did. -/
def kernelReluUptoRow : OpenClaim := { program := "ytcbmnjhdeklkmaa", sum := "8020d0f9f2ff77a90388648d8c8964f95221930fd0792a9d7143681acf5b6327", func := "gradus/graduslaw6.KernelRelu", spec := "kernelRelu", unfollowed := true, recurses := true, apart := false, narrowed := true }
def KernelReluUptoSaid : Prop := kernelReluUptoRow.holds Try.pinned (OpenSpec.upto kernelReluSpec)

/-- 'graduslaw6.KernelMax', WHERE WHAT IT READS IS OF BULK AT MOST 1048576: true; the input reads as it did. -/
def kernelMaxUptoRow : OpenClaim := { program := "ytcbmnjhdeklkmaa", sum := "8020d0f9f2ff77a90388648d8c8964f95221930fd0792a9d7143681acf5b6327", func := "gradus/graduslaw6.KernelMax", spec := "kernelMax", unfollowed := true, recurses := true, apart := false, narrowed := true }
def KernelMaxUptoSaid : Prop := kernelMaxUptoRow.holds Try.pinned (OpenSpec.upto kernelMaxSpec)

/-- 'graduslaw6.KernelStep', WHERE WHAT IT READS IS OF BULK AT MOST 1048576: true; the input reads as it did. -/
def kernelStepUptoRow : OpenClaim := { program := "ytcbmnjhdeklkmaa", sum := "8020d0f9f2ff77a90388648d8c8964f95221930fd0792a9d7143681acf5b6327", func := "gradus/graduslaw6.KernelStep", spec := "kernelStep", unfollowed := true, recurses := true, apart := false, narrowed := true }
def KernelStepUptoSaid : Prop := kernelStepUptoRow.holds Try.pinned (OpenSpec.upto kernelStepSpec)

/-- 'graduslaw6.KernelPick', WHERE WHAT IT READS IS OF BULK AT MOST 1048576: true; the input reads as it did. -/
def kernelPickUptoRow : OpenClaim := { program := "ytcbmnjhdeklkmaa", sum := "8020d0f9f2ff77a90388648d8c8964f95221930fd0792a9d7143681acf5b6327", func := "gradus/graduslaw6.KernelPick", spec := "kernelPick", unfollowed := true, recurses := true, apart := false, narrowed := true }
def KernelPickUptoSaid : Prop := kernelPickUptoRow.holds Try.pinned (OpenSpec.upto kernelPickSpec)

end Rows
end Go.Proofs.Ytcbmnjhdeklkmaa
