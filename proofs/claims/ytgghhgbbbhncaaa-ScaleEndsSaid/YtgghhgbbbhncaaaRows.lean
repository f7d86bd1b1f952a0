/-
  No cell of these rows narrows 'for every input' (looked for: loops, veiled, ifaces, maps, wideKeys, modest, calm, conditions, laid).
  DERIVED. THE GIVEN ROWS OF THIS SEAT. 9 by the template 'for every input the law returns true; each argument reads behind the call as it read before'; 0 by the template 'total and deterministic' (their statements: YtgghhgbbbhncaaaTotals.lean).
  GIVEN WITH THE SEED: the statements are not yours to turn. If you find one false, say at which input.
  Laid BY PROGRAM, IN A SANDBOX (cutbox-rows.mjs): the forced cells as the released guide's own fill.sh prints them over the translation 122640cae91f5d06… (all of the seat's roots in one cut). By AI agents, Wed Nov 11 2026. No macro, syntax, notation, axiom, sorry.
-/
import Derived.Test.YtgghhgbbbhncaaaChecked
import GoSem.Claim
import GoSem.ClaimJoined
import GoSem.ClaimMapViews
import Derived.JoinedTies
import Derived.KernelRfl
namespace Go.Proofs.Ytgghhgbbbhncaaa
/- THE CELL 'sum', in the pinned program and in every row, IS THE sha256 OF THE DUMP (.gsa) THAT YtgghhgbbbhncaaaProg.lean LOADS. Nothing in Lean hashes anything: it is a label: what it is worth is what the hold of that sum in a sandbox is worth. -/
noncomputable def Try.pinned : Pinned := { name := "ytgghhgbbbhncaaa", sum := "122640cae91f5d06f9aaa6e98ce1a99d98ccfb25c8c63aa5d5d6b52fd5793b04", checked := Try.checked }
namespace Rows
def none {H : Type} : Left H := { results := [], args := [] }

/-- 'regimenlaw09.CurveWithin': WHATEVER THE INPUT: true; the input reads as it did. -/
def curveWithinSpec : ChangeSpec := { name := "curveWithin", fn := fun _ => fun
  | [d1, d2, d3] => { results := [.lit (.bool true)], args := [d1, d2, d3] }
  | _ => none }
def curveWithinRow : OpenClaim := { program := "ytgghhgbbbhncaaa", sum := "122640cae91f5d06f9aaa6e98ce1a99d98ccfb25c8c63aa5d5d6b52fd5793b04", func := "regimen/regimenlaw09.CurveWithin", spec := "curveWithin", named := ["math/bits.divideError", "math/bits.overflowError"], apart := false }
def CurveWithinSaid : Prop := curveWithinRow.holds Try.pinned (OpenSpec.ofChange curveWithinSpec)

/-- ITS FALSE NEIGHBOUR: 'it returns false'. Refute it at one input. -/
def curveWithinWrong : ChangeSpec := { name := "curveWithin", fn := fun _ => fun
  | [d1, d2, d3] => { results := [.lit (.bool false)], args := [d1, d2, d3] }
  | _ => none }
def CurveWithinWrongFalsely : Prop := curveWithinRow.holds Try.pinned (OpenSpec.ofChange curveWithinWrong)

/-- 'regimenlaw53.ScaleEnds': WHATEVER THE INPUT: true; the input reads as it did. -/
def scaleEndsSpec : ChangeSpec := { name := "scaleEnds", fn := fun _ => fun
  | [d1, d2] => { results := [.lit (.bool true)], args := [d1, d2] }
  | _ => none }
def scaleEndsRow : OpenClaim := { program := "ytgghhgbbbhncaaa", sum := "122640cae91f5d06f9aaa6e98ce1a99d98ccfb25c8c63aa5d5d6b52fd5793b04", func := "regimen/regimenlaw53.ScaleEnds", spec := "scaleEnds", unfollowed := true, recurses := true, named := ["math/bits.divideError", "math/bits.overflowError"], apart := false }
def ScaleEndsSaid : Prop := scaleEndsRow.holds Try.pinned (OpenSpec.ofChange scaleEndsSpec)

/-- ITS FALSE NEIGHBOUR: 'it returns false'. Refute it at one input. -/
def scaleEndsWrong : ChangeSpec := { name := "scaleEnds", fn := fun _ => fun
  | [d1, d2] => { results := [.lit (.bool false)], args := [d1, d2] }
  | _ => none }
def ScaleEndsWrongFalsely : Prop := scaleEndsRow.holds Try.pinned (OpenSpec.ofChange scaleEndsWrong)

/-- 'regimenlaw32.BestKeeps': WHATEVER THE INPUT: true; the input reads as it did. -/
def bestKeepsSpec : ChangeSpec := { name := "bestKeeps", fn := fun _ => fun
  | [d1, d2, d3] => { results := [.lit (.bool true)], args := [d1, d2, d3] }
  | _ => none }
def bestKeepsRow : OpenClaim := { program := "ytgghhgbbbhncaaa", sum := "122640cae91f5d06f9aaa6e98ce1a99d98ccfb25c8c63aa5d5d6b52fd5793b04", func := "regimen/regimenlaw32.BestKeeps", spec := "bestKeeps", inPlace := ["slices.overlaps[regimen/api.Kept]"], unfollowed := true, recurses := true, named := ["math/bits.divideError", "math/bits.overflowError"], apart := false }
def BestKeepsSaid : Prop := bestKeepsRow.holds Try.pinned (OpenSpec.ofChange bestKeepsSpec)

/-- ITS FALSE NEIGHBOUR: 'it returns false'. Refute it at one input. -/
def bestKeepsWrong : ChangeSpec := { name := "bestKeeps", fn := fun _ => fun
  | [d1, d2, d3] => { results := [.lit (.bool false)], args := [d1, d2, d3] }
  | _ => none }
def BestKeepsWrongFalsely : Prop := bestKeepsRow.holds Try.pinned (OpenSpec.ofChange bestKeepsWrong)

/-- 'regimenlaw24.SegsAt': WHATEVER THE INPUT: true; the input reads as it did. -/
def segsAtSpec : ChangeSpec := { name := "segsAt", fn := fun _ => fun
  | [d1, d2] => { results := [.lit (.bool true)], args := [d1, d2] }
  | _ => none }
def segsAtRow : OpenClaim := { program := "ytgghhgbbbhncaaa", sum := "122640cae91f5d06f9aaa6e98ce1a99d98ccfb25c8c63aa5d5d6b52fd5793b04", func := "regimen/regimenlaw24.SegsAt", spec := "segsAt", unfollowed := true, recurses := true, named := ["math/bits.divideError", "math/bits.overflowError"], apart := false }
def SegsAtSaid : Prop := segsAtRow.holds Try.pinned (OpenSpec.ofChange segsAtSpec)

/-- ITS FALSE NEIGHBOUR: 'it returns false'. Refute it at one input. -/
def segsAtWrong : ChangeSpec := { name := "segsAt", fn := fun _ => fun
  | [d1, d2] => { results := [.lit (.bool false)], args := [d1, d2] }
  | _ => none }
def SegsAtWrongFalsely : Prop := segsAtRow.holds Try.pinned (OpenSpec.ofChange segsAtWrong)

/-- 'regimenlaw24.SegsBounds': WHATEVER THE INPUT: true; the input reads as it did. -/
def segsBoundsSpec : ChangeSpec := { name := "segsBounds", fn := fun _ => fun
  | [d1, d2] => { results := [.lit (.bool true)], args := [d1, d2] }
  | _ => none }
def segsBoundsRow : OpenClaim := { program := "ytgghhgbbbhncaaa", sum := "122640cae91f5d06f9aaa6e98ce1a99d98ccfb25c8c63aa5d5d6b52fd5793b04", func := "regimen/regimenlaw24.SegsBounds", spec := "segsBounds", unfollowed := true, recurses := true, named := ["math/bits.divideError", "math/bits.overflowError"], apart := false }
def SegsBoundsSaid : Prop := segsBoundsRow.holds Try.pinned (OpenSpec.ofChange segsBoundsSpec)

/-- ITS FALSE NEIGHBOUR: 'it returns false'. Refute it at one input. -/
def segsBoundsWrong : ChangeSpec := { name := "segsBounds", fn := fun _ => fun
  | [d1, d2] => { results := [.lit (.bool false)], args := [d1, d2] }
  | _ => none }
def SegsBoundsWrongFalsely : Prop := segsBoundsRow.holds Try.pinned (OpenSpec.ofChange segsBoundsWrong)

/-- 'regimenlaw37.StateTells': WHATEVER THE INPUT: true; the input reads as it did. -/
def stateTellsSpec : ChangeSpec := { name := "stateTells", fn := fun _ => fun
  | [d1, d2, d3] => { results := [.lit (.bool true)], args := [d1, d2, d3] }
  | _ => none }
def stateTellsRow : OpenClaim := { program := "ytgghhgbbbhncaaa", sum := "122640cae91f5d06f9aaa6e98ce1a99d98ccfb25c8c63aa5d5d6b52fd5793b04", func := "regimen/regimenlaw37.StateTells", spec := "stateTells", unfollowed := true, recurses := true, named := ["math/bits.divideError", "math/bits.overflowError"], apart := false }
def StateTellsSaid : Prop := stateTellsRow.holds Try.pinned (OpenSpec.ofChange stateTellsSpec)

/-- ITS FALSE NEIGHBOUR: 'it returns false'. Refute it at one input. -/
def stateTellsWrong : ChangeSpec := { name := "stateTells", fn := fun _ => fun
  | [d1, d2, d3] => { results := [.lit (.bool false)], args := [d1, d2, d3] }
  | _ => none }
def StateTellsWrongFalsely : Prop := stateTellsRow.holds Try.pinned (OpenSpec.ofChange stateTellsWrong)

/-- 'regimenlaw43.BoundTells': WHATEVER THE INPUT: true; the input reads as it did. -/
def boundTellsSpec : ChangeSpec := { name := "boundTells", fn := fun _ => fun
  | [d1, d2] => { results := [.lit (.bool true)], args := [d1, d2] }
  | _ => none }
def boundTellsRow : OpenClaim := { program := "ytgghhgbbbhncaaa", sum := "122640cae91f5d06f9aaa6e98ce1a99d98ccfb25c8c63aa5d5d6b52fd5793b04", func := "regimen/regimenlaw43.BoundTells", spec := "boundTells", unfollowed := true, recurses := true, named := ["math/bits.divideError", "math/bits.overflowError"], apart := false }
def BoundTellsSaid : Prop := boundTellsRow.holds Try.pinned (OpenSpec.ofChange boundTellsSpec)

/-- ITS FALSE NEIGHBOUR: 'it returns false'. Refute it at one input. -/
def boundTellsWrong : ChangeSpec := { name := "boundTells", fn := fun _ => fun
  | [d1, d2] => { results := [.lit (.bool false)], args := [d1, d2] }
  | _ => none }
def BoundTellsWrongFalsely : Prop := boundTellsRow.holds Try.pinned (OpenSpec.ofChange boundTellsWrong)

/-- 'regimenlaw54.BudgetParts': WHATEVER THE INPUT: true; the input reads as it did. -/
def budgetPartsSpec : ChangeSpec := { name := "budgetParts", fn := fun _ => fun
  | [d1, d2, d3] => { results := [.lit (.bool true)], args := [d1, d2, d3] }
  | _ => none }
def budgetPartsRow : OpenClaim := { program := "ytgghhgbbbhncaaa", sum := "122640cae91f5d06f9aaa6e98ce1a99d98ccfb25c8c63aa5d5d6b52fd5793b04", func := "regimen/regimenlaw54.BudgetParts", spec := "budgetParts", unfollowed := true, recurses := true, named := ["math/bits.divideError", "math/bits.overflowError"], apart := false }
def BudgetPartsSaid : Prop := budgetPartsRow.holds Try.pinned (OpenSpec.ofChange budgetPartsSpec)

/-- ITS FALSE NEIGHBOUR: 'it returns false'. Refute it at one input. -/
def budgetPartsWrong : ChangeSpec := { name := "budgetParts", fn := fun _ => fun
  | [d1, d2, d3] => { results := [.lit (.bool false)], args := [d1, d2, d3] }
  | _ => none }
def BudgetPartsWrongFalsely : Prop := budgetPartsRow.holds Try.pinned (OpenSpec.ofChange budgetPartsWrong)

/-- 'regimenlaw60.SwapSelf': WHATEVER THE INPUT: true; the input reads as it did. -/
def swapSelfSpec : ChangeSpec := { name := "swapSelf", fn := fun _ => fun
  | [d1, d2] => { results := [.lit (.bool true)], args := [d1, d2] }
  | _ => none }
def swapSelfRow : OpenClaim := { program := "ytgghhgbbbhncaaa", sum := "122640cae91f5d06f9aaa6e98ce1a99d98ccfb25c8c63aa5d5d6b52fd5793b04", func := "regimen/regimenlaw60.SwapSelf", spec := "swapSelf", inPlace := ["slices.overlaps[regimen/api.Kept]"], unfollowed := true, recurses := true, named := ["math/bits.divideError", "math/bits.overflowError"], apart := false }
def SwapSelfSaid : Prop := swapSelfRow.holds Try.pinned (OpenSpec.ofChange swapSelfSpec)

/-- ITS FALSE NEIGHBOUR: 'it returns false'. Refute it at one input. -/
def swapSelfWrong : ChangeSpec := { name := "swapSelf", fn := fun _ => fun
  | [d1, d2] => { results := [.lit (.bool false)], args := [d1, d2] }
  | _ => none }
def SwapSelfWrongFalsely : Prop := swapSelfRow.holds Try.pinned (OpenSpec.ofChange swapSelfWrong)

/- THE SECOND FORM. 'bulk': how many values and letters a reading holds, each counted each time it is reached (what is shared counts as often as it is met; a slice's spare places count too). A statement '..UptoSaid' is the law's where the arguments, and the package variables that the reading takes, are together of bulk at most 1048576: NARROWER than '..Said'. Prove '..Said' where nothing that the law and all that it calls make is longer than what came in: it says more and counts as full. Else prove '..UptoSaid'. A law counts once. -/
mutual
def uptoBulk {H : Type} : DataW H → Nat
  | .lit (.string bytes) => bytes.length + 1
  | .lit _ => 1
  | .nil => 1
  | .ptr d => uptoBulk d + 1
  | .slice elems spare => uptoBulkAll elems + uptoBulkAll spare + 1
  | .agg parts => uptoBulkAll parts + 1
  | .iface _ d => uptoBulk d + 1
  | .map entries => uptoBulkEntries entries + 1
  | .held _ => 1
def uptoBulkAll {H : Type} : List (DataW H) → Nat
  | [] => 0
  | d :: r => uptoBulk d + uptoBulkAll r
def uptoBulkEntries {H : Type} : List (Lit × DataW H) → Nat
  | [] => 0
  | x :: r => uptoBulkEntry x + uptoBulkEntries r
def uptoBulkEntry {H : Type} : Lit × DataW H → Nat
  | (.string bytes, d) => bytes.length + uptoBulk d + 1
  | (_, d) => uptoBulk d + 1
 end
def uptoSmall : (H : Type) → List (DataW H) → Bool := fun _ ds => decide (uptoBulkAll ds ≤ 1048576)
def OpenSpec.upto (s : _root_.Go.ChangeSpec) : _root_.Go.OpenSpec := { _root_.Go.OpenSpec.ofChange s with cond := some uptoSmall }

/-- 'regimenlaw09.CurveWithin', WHERE WHAT IT READS IS OF BULK AT MOST 1048576: true; the input reads as it did. -/
def curveWithinUptoRow : OpenClaim := { program := "ytgghhgbbbhncaaa", sum := "122640cae91f5d06f9aaa6e98ce1a99d98ccfb25c8c63aa5d5d6b52fd5793b04", func := "regimen/regimenlaw09.CurveWithin", spec := "curveWithin", named := ["math/bits.divideError", "math/bits.overflowError"], apart := false, narrowed := true }
def CurveWithinUptoSaid : Prop := curveWithinUptoRow.holds Try.pinned (OpenSpec.upto curveWithinSpec)

/-- 'regimenlaw53.ScaleEnds', WHERE WHAT IT READS IS OF BULK AT MOST 1048576: true; the input reads as it did. -/
def scaleEndsUptoRow : OpenClaim := { program := "ytgghhgbbbhncaaa", sum := "122640cae91f5d06f9aaa6e98ce1a99d98ccfb25c8c63aa5d5d6b52fd5793b04", func := "regimen/regimenlaw53.ScaleEnds", spec := "scaleEnds", unfollowed := true, recurses := true, named := ["math/bits.divideError", "math/bits.overflowError"], apart := false, narrowed := true }
def ScaleEndsUptoSaid : Prop := scaleEndsUptoRow.holds Try.pinned (OpenSpec.upto scaleEndsSpec)

/-- 'regimenlaw32.BestKeeps', WHERE WHAT IT READS IS OF BULK AT MOST 1048576: true; the input reads as it did. -/
def bestKeepsUptoRow : OpenClaim := { program := "ytgghhgbbbhncaaa", sum := "122640cae91f5d06f9aaa6e98ce1a99d98ccfb25c8c63aa5d5d6b52fd5793b04", func := "regimen/regimenlaw32.BestKeeps", spec := "bestKeeps", inPlace := ["slices.overlaps[regimen/api.Kept]"], unfollowed := true, recurses := true, named := ["math/bits.divideError", "math/bits.overflowError"], apart := false, narrowed := true }
def BestKeepsUptoSaid : Prop := bestKeepsUptoRow.holds Try.pinned (OpenSpec.upto bestKeepsSpec)

/-- 'regimenlaw24.SegsAt', WHERE WHAT IT READS IS OF BULK AT MOST 1048576: true; the input reads as it did. -/
def segsAtUptoRow : OpenClaim := { program := "ytgghhgbbbhncaaa", sum := "122640cae91f5d06f9aaa6e98ce1a99d98ccfb25c8c63aa5d5d6b52fd5793b04", func := "regimen/regimenlaw24.SegsAt", spec := "segsAt", unfollowed := true, recurses := true, named := ["math/bits.divideError", "math/bits.overflowError"], apart := false, narrowed := true }
def SegsAtUptoSaid : Prop := segsAtUptoRow.holds Try.pinned (OpenSpec.upto segsAtSpec)

/-- 'regimenlaw24.SegsBounds', WHERE WHAT IT READS IS OF BULK AT MOST 1048576: true; the input reads as it did. -/
def segsBoundsUptoRow : OpenClaim := { program := "ytgghhgbbbhncaaa", sum := "122640cae91f5d06f9aaa6e98ce1a99d98ccfb25c8c63aa5d5d6b52fd5793b04", func := "regimen/regimenlaw24.SegsBounds", spec := "segsBounds", unfollowed := true, recurses := true, named := ["math/bits.divideError", "math/bits.overflowError"], apart := false, narrowed := true }
def SegsBoundsUptoSaid : Prop := segsBoundsUptoRow.holds Try.pinned (OpenSpec.upto segsBoundsSpec)

/-- 'regimenlaw37.StateTells', WHERE WHAT IT READS IS OF BULK AT MOST 1048576: true; the input reads as it did. -/
def stateTellsUptoRow : OpenClaim := { program := "ytgghhgbbbhncaaa", sum := "122640cae91f5d06f9aaa6e98ce1a99d98ccfb25c8c63aa5d5d6b52fd5793b04", func := "regimen/regimenlaw37.StateTells", spec := "stateTells", unfollowed := true, recurses := true, named := ["math/bits.divideError", "math/bits.overflowError"], apart := false, narrowed := true }
def StateTellsUptoSaid : Prop := stateTellsUptoRow.holds Try.pinned (OpenSpec.upto stateTellsSpec)

/-- 'regimenlaw43.BoundTells', WHERE WHAT IT READS IS OF BULK AT MOST 1048576: true; the input reads as it did. -/
def boundTellsUptoRow : OpenClaim := { program := "ytgghhgbbbhncaaa", sum := "122640cae91f5d06f9aaa6e98ce1a99d98ccfb25c8c63aa5d5d6b52fd5793b04", func := "regimen/regimenlaw43.BoundTells", spec := "boundTells", unfollowed := true, recurses := true, named := ["math/bits.divideError", "math/bits.overflowError"], apart := false, narrowed := true }
def BoundTellsUptoSaid : Prop := boundTellsUptoRow.holds Try.pinned (OpenSpec.upto boundTellsSpec)

/-- 'regimenlaw54.BudgetParts', WHERE WHAT IT READS IS OF BULK AT MOST 1048576: true; the input reads as it did. -/
def budgetPartsUptoRow : OpenClaim := { program := "ytgghhgbbbhncaaa", sum := "122640cae91f5d06f9aaa6e98ce1a99d98ccfb25c8c63aa5d5d6b52fd5793b04", func := "regimen/regimenlaw54.BudgetParts", spec := "budgetParts", unfollowed := true, recurses := true, named := ["math/bits.divideError", "math/bits.overflowError"], apart := false, narrowed := true }
def BudgetPartsUptoSaid : Prop := budgetPartsUptoRow.holds Try.pinned (OpenSpec.upto budgetPartsSpec)

/-- 'regimenlaw60.SwapSelf', WHERE WHAT IT READS IS OF BULK AT MOST 1048576: true; the input reads as it did. -/
def swapSelfUptoRow : OpenClaim := { program := "ytgghhgbbbhncaaa", sum := "122640cae91f5d06f9aaa6e98ce1a99d98ccfb25c8c63aa5d5d6b52fd5793b04", func := "regimen/regimenlaw60.SwapSelf", spec := "swapSelf", inPlace := ["slices.overlaps[regimen/api.Kept]"], unfollowed := true, recurses := true, named := ["math/bits.divideError", "math/bits.overflowError"], apart := false, narrowed := true }
def SwapSelfUptoSaid : Prop := swapSelfUptoRow.holds Try.pinned (OpenSpec.upto swapSelfSpec)

end Rows
end Go.Proofs.Ytgghhgbbbhncaaa
