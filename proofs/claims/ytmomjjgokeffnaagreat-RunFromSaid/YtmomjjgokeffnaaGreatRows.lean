/-
  No cell of these rows narrows 'for every input' (looked for: loops, veiled, ifaces, maps, wideKeys, modest, calm, conditions, laid).
  DERIVED. THE GIVEN ROWS OF THIS SEAT. 6 by the template 'for every input the law returns true; each argument reads behind the call as it read before'; 0 by the template 'total and deterministic' (their statements: YtmomjjgokeffnaaGreatTotals.lean).
  GIVEN WITH THE SEED: the statements are not yours to turn. If you find one false, say at which input.
  Laid BY PROGRAM, IN A SANDBOX (cutbox-rows.mjs): the forced cells as the released guide's own fill.sh prints them over the translation 50e34ce809b14007… (all of the seat's roots in one cut). By AI agents, Wed Nov 11 2026. No macro, syntax, notation, axiom, sorry.
-/
import Derived.Test.YtmomjjgokeffnaaGreatChecked
import GoSem.Claim
import GoSem.ClaimJoined
import GoSem.ClaimMapViews
import Derived.JoinedTies
import Derived.KernelRfl
namespace Go.Proofs.YtmomjjgokeffnaaGreat
/- THE CELL 'sum', in the pinned program and in every row, IS THE sha256 OF THE DUMP (.gsa) THAT YtmomjjgokeffnaaGreatProg.lean LOADS. Nothing in Lean hashes anything: it is a label: what it is worth is what the hold of that sum in a sandbox is worth. -/
noncomputable def Tryz.pinned : Pinned := { name := "ytmomjjgokeffnaagreat", sum := "50e34ce809b14007ee3f6a811bf8c84e98f62f4f313883e06f5d96a259695267", checked := Tryz.checked }
namespace Rows
def none {H : Type} : Left H := { results := [], args := [] }

/-- 'regimenlaw38.EngineSteps': WHATEVER THE INPUT: true; the input reads as it did. -/
def engineStepsSpec : ChangeSpec := { name := "engineSteps", fn := fun _ => fun
  | [d1, d2, d3] => { results := [.lit (.bool true)], args := [d1, d2, d3] }
  | _ => none }
def engineStepsRow : OpenClaim := { program := "ytmomjjgokeffnaagreat", sum := "50e34ce809b14007ee3f6a811bf8c84e98f62f4f313883e06f5d96a259695267", func := "regimen/regimenlaw38.EngineSteps", spec := "engineSteps", inPlace := ["slices.overlaps[regimen/api.Kept]"], unfollowed := true, recurses := true, named := ["math/bits.divideError", "math/bits.overflowError"], apart := false }
def EngineStepsSaid : Prop := engineStepsRow.holds Tryz.pinned (OpenSpec.ofChange engineStepsSpec)

/-- ITS FALSE NEIGHBOUR: 'it returns false'. Refute it at one input. -/
def engineStepsWrong : ChangeSpec := { name := "engineSteps", fn := fun _ => fun
  | [d1, d2, d3] => { results := [.lit (.bool false)], args := [d1, d2, d3] }
  | _ => none }
def EngineStepsWrongFalsely : Prop := engineStepsRow.holds Tryz.pinned (OpenSpec.ofChange engineStepsWrong)

/-- 'regimenlaw38.EngineRates': WHATEVER THE INPUT: true; the input reads as it did. -/
def engineRatesSpec : ChangeSpec := { name := "engineRates", fn := fun _ => fun
  | [d1, d2] => { results := [.lit (.bool true)], args := [d1, d2] }
  | _ => none }
def engineRatesRow : OpenClaim := { program := "ytmomjjgokeffnaagreat", sum := "50e34ce809b14007ee3f6a811bf8c84e98f62f4f313883e06f5d96a259695267", func := "regimen/regimenlaw38.EngineRates", spec := "engineRates", inPlace := ["slices.overlaps[regimen/api.Kept]"], unfollowed := true, recurses := true, named := ["math/bits.divideError", "math/bits.overflowError"], apart := false }
def EngineRatesSaid : Prop := engineRatesRow.holds Tryz.pinned (OpenSpec.ofChange engineRatesSpec)

/-- ITS FALSE NEIGHBOUR: 'it returns false'. Refute it at one input. -/
def engineRatesWrong : ChangeSpec := { name := "engineRates", fn := fun _ => fun
  | [d1, d2] => { results := [.lit (.bool false)], args := [d1, d2] }
  | _ => none }
def EngineRatesWrongFalsely : Prop := engineRatesRow.holds Tryz.pinned (OpenSpec.ofChange engineRatesWrong)

/-- 'regimenlaw38.EngineOrder': WHATEVER THE INPUT: true; the input reads as it did. -/
def engineOrderSpec : ChangeSpec := { name := "engineOrder", fn := fun _ => fun
  | [d1, d2, d3] => { results := [.lit (.bool true)], args := [d1, d2, d3] }
  | _ => none }
def engineOrderRow : OpenClaim := { program := "ytmomjjgokeffnaagreat", sum := "50e34ce809b14007ee3f6a811bf8c84e98f62f4f313883e06f5d96a259695267", func := "regimen/regimenlaw38.EngineOrder", spec := "engineOrder", inPlace := ["slices.overlaps[regimen/api.Kept]"], unfollowed := true, recurses := true, named := ["math/bits.divideError", "math/bits.overflowError"], apart := false }
def EngineOrderSaid : Prop := engineOrderRow.holds Tryz.pinned (OpenSpec.ofChange engineOrderSpec)

/-- ITS FALSE NEIGHBOUR: 'it returns false'. Refute it at one input. -/
def engineOrderWrong : ChangeSpec := { name := "engineOrder", fn := fun _ => fun
  | [d1, d2, d3] => { results := [.lit (.bool false)], args := [d1, d2, d3] }
  | _ => none }
def EngineOrderWrongFalsely : Prop := engineOrderRow.holds Tryz.pinned (OpenSpec.ofChange engineOrderWrong)

/-- 'regimenlaw39.RunParts': WHATEVER THE INPUT: true; the input reads as it did. -/
def runPartsSpec : ChangeSpec := { name := "runParts", fn := fun _ => fun
  | [d1, d2, d3] => { results := [.lit (.bool true)], args := [d1, d2, d3] }
  | _ => none }
def runPartsRow : OpenClaim := { program := "ytmomjjgokeffnaagreat", sum := "50e34ce809b14007ee3f6a811bf8c84e98f62f4f313883e06f5d96a259695267", func := "regimen/regimenlaw39.RunParts", spec := "runParts", inPlace := ["slices.overlaps[regimen/api.Kept]"], unfollowed := true, recurses := true, named := ["math/bits.divideError", "math/bits.overflowError"], apart := false }
def RunPartsSaid : Prop := runPartsRow.holds Tryz.pinned (OpenSpec.ofChange runPartsSpec)

/-- ITS FALSE NEIGHBOUR: 'it returns false'. Refute it at one input. -/
def runPartsWrong : ChangeSpec := { name := "runParts", fn := fun _ => fun
  | [d1, d2, d3] => { results := [.lit (.bool false)], args := [d1, d2, d3] }
  | _ => none }
def RunPartsWrongFalsely : Prop := runPartsRow.holds Tryz.pinned (OpenSpec.ofChange runPartsWrong)

/-- 'regimenlaw39.RunFrom': WHATEVER THE INPUT: true; the input reads as it did. -/
def runFromSpec : ChangeSpec := { name := "runFrom", fn := fun _ => fun
  | [d1, d2, d3] => { results := [.lit (.bool true)], args := [d1, d2, d3] }
  | _ => none }
def runFromRow : OpenClaim := { program := "ytmomjjgokeffnaagreat", sum := "50e34ce809b14007ee3f6a811bf8c84e98f62f4f313883e06f5d96a259695267", func := "regimen/regimenlaw39.RunFrom", spec := "runFrom", inPlace := ["slices.overlaps[regimen/api.Kept]"], unfollowed := true, recurses := true, named := ["math/bits.divideError", "math/bits.overflowError"], apart := false }
def RunFromSaid : Prop := runFromRow.holds Tryz.pinned (OpenSpec.ofChange runFromSpec)

/-- ITS FALSE NEIGHBOUR: 'it returns false'. Refute it at one input. -/
def runFromWrong : ChangeSpec := { name := "runFrom", fn := fun _ => fun
  | [d1, d2, d3] => { results := [.lit (.bool false)], args := [d1, d2, d3] }
  | _ => none }
def RunFromWrongFalsely : Prop := runFromRow.holds Tryz.pinned (OpenSpec.ofChange runFromWrong)

/-- 'regimenlaw39.RunEnds': WHATEVER THE INPUT: true; the input reads as it did. -/
def runEndsSpec : ChangeSpec := { name := "runEnds", fn := fun _ => fun
  | [d1, d2] => { results := [.lit (.bool true)], args := [d1, d2] }
  | _ => none }
def runEndsRow : OpenClaim := { program := "ytmomjjgokeffnaagreat", sum := "50e34ce809b14007ee3f6a811bf8c84e98f62f4f313883e06f5d96a259695267", func := "regimen/regimenlaw39.RunEnds", spec := "runEnds", inPlace := ["slices.overlaps[regimen/api.Kept]"], unfollowed := true, recurses := true, named := ["math/bits.divideError", "math/bits.overflowError"], apart := false }
def RunEndsSaid : Prop := runEndsRow.holds Tryz.pinned (OpenSpec.ofChange runEndsSpec)

/-- ITS FALSE NEIGHBOUR: 'it returns false'. Refute it at one input. -/
def runEndsWrong : ChangeSpec := { name := "runEnds", fn := fun _ => fun
  | [d1, d2] => { results := [.lit (.bool false)], args := [d1, d2] }
  | _ => none }
def RunEndsWrongFalsely : Prop := runEndsRow.holds Tryz.pinned (OpenSpec.ofChange runEndsWrong)

/- THE SECOND FORM. 'bulk': how many values and letters a reading holds, each counted each time it is reached (what is shared counts as often as it is met; a slice's spare places count too). A statement '..UptoSaid' is the law's where the arguments, and the package variables that the reading takes, are together of bulk at most 1048576: NARROWER than '..Said'. Prove '..Said' where nothing that the law and all that it calls make is longer than what came in: it says more and counts as full. Else prove '..UptoSaid'. A law counts once. -/
mutual
def uptoBulk {H : Type} : DataW H → Nat
  | .lit (.string bytes) => bytes.length + 1
  | .lit _ => 1
  | .nil => 1
  | .ptr d => uptoBulk d + 1
  | .slice elems spare => uptoBulkAll elems + uptoBulkAll spare + 1
  | .agg parts => uptoBulkAll parts + 1
  | .iface _ d => uptoBulk d + 1
  | .map entries => uptoBulkEntries entries + 1
  | .held _ => 1
def uptoBulkAll {H : Type} : List (DataW H) → Nat
  | [] => 0
  | d :: r => uptoBulk d + uptoBulkAll r
def uptoBulkEntries {H : Type} : List (Lit × DataW H) → Nat
  | [] => 0
  | x :: r => uptoBulkEntry x + uptoBulkEntries r
def uptoBulkEntry {H : Type} : Lit × DataW H → Nat
  | (.string bytes, d) => bytes.length + uptoBulk d + 1
  | (_, d) => uptoBulk d + 1
 end
def uptoSmall : (H : Type) → List (DataW H) → Bool := fun _ ds => decide (uptoBulkAll ds ≤ 1048576)
def OpenSpec.upto (s : _root_.Go.ChangeSpec) : _root_.Go.OpenSpec := { _root_.Go.OpenSpec.ofChange s with cond := some uptoSmall }

/-- 'regimenlaw38.EngineSteps', WHERE WHAT IT READS IS OF BULK AT MOST 1048576: true; the input reads as it did. -/
def engineStepsUptoRow : OpenClaim := { program := "ytmomjjgokeffnaagreat", sum := "50e34ce809b14007ee3f6a811bf8c84e98f62f4f313883e06f5d96a259695267", func := "regimen/regimenlaw38.EngineSteps", spec := "engineSteps", inPlace := ["slices.overlaps[regimen/api.Kept]"], unfollowed := true, recurses := true, named := ["math/bits.divideError", "math/bits.overflowError"], apart := false, narrowed := true }
def EngineStepsUptoSaid : Prop := engineStepsUptoRow.holds Tryz.pinned (OpenSpec.upto engineStepsSpec)

/-- 'regimenlaw38.EngineRates', WHERE WHAT IT READS IS OF BULK AT MOST 1048576: true; the input reads as it did. -/
def engineRatesUptoRow : OpenClaim := { program := "ytmomjjgokeffnaagreat", sum := "50e34ce809b14007ee3f6a811bf8c84e98f62f4f313883e06f5d96a259695267", func := "regimen/regimenlaw38.EngineRates", spec := "engineRates", inPlace := ["slices.overlaps[regimen/api.Kept]"], unfollowed := true, recurses := true, named := ["math/bits.divideError", "math/bits.overflowError"], apart := false, narrowed := true }
def EngineRatesUptoSaid : Prop := engineRatesUptoRow.holds Tryz.pinned (OpenSpec.upto engineRatesSpec)

/-- 'regimenlaw38.EngineOrder', WHERE WHAT IT READS IS OF BULK AT MOST 1048576: true; the input reads as it did. -/
def engineOrderUptoRow : OpenClaim := { program := "ytmomjjgokeffnaagreat", sum := "50e34ce809b14007ee3f6a811bf8c84e98f62f4f313883e06f5d96a259695267", func := "regimen/regimenlaw38.EngineOrder", spec := "engineOrder", inPlace := ["slices.overlaps[regimen/api.Kept]"], unfollowed := true, recurses := true, named := ["math/bits.divideError", "math/bits.overflowError"], apart := false, narrowed := true }
def EngineOrderUptoSaid : Prop := engineOrderUptoRow.holds Tryz.pinned (OpenSpec.upto engineOrderSpec)

/-- 'regimenlaw39.RunParts', WHERE WHAT IT READS IS OF BULK AT MOST 1048576: true; the input reads as it did. -/
def runPartsUptoRow : OpenClaim := { program := "ytmomjjgokeffnaagreat", sum := "50e34ce809b14007ee3f6a811bf8c84e98f62f4f313883e06f5d96a259695267", func := "regimen/regimenlaw39.RunParts", spec := "runParts", inPlace := ["slices.overlaps[regimen/api.Kept]"], unfollowed := true, recurses := true, named := ["math/bits.divideError", "math/bits.overflowError"], apart := false, narrowed := true }
def RunPartsUptoSaid : Prop := runPartsUptoRow.holds Tryz.pinned (OpenSpec.upto runPartsSpec)

/-- 'regimenlaw39.RunFrom', WHERE WHAT IT READS IS OF BULK AT MOST 1048576: true; the input reads as it did. -/
def runFromUptoRow : OpenClaim := { program := "ytmomjjgokeffnaagreat", sum := "50e34ce809b14007ee3f6a811bf8c84e98f62f4f313883e06f5d96a259695267", func := "regimen/regimenlaw39.RunFrom", spec := "runFrom", inPlace := ["slices.overlaps[regimen/api.Kept]"], unfollowed := true, recurses := true, named := ["math/bits.divideError", "math/bits.overflowError"], apart := false, narrowed := true }
def RunFromUptoSaid : Prop := runFromUptoRow.holds Tryz.pinned (OpenSpec.upto runFromSpec)

/-- 'regimenlaw39.RunEnds', WHERE WHAT IT READS IS OF BULK AT MOST 1048576: true; the input reads as it did. -/
def runEndsUptoRow : OpenClaim := { program := "ytmomjjgokeffnaagreat", sum := "50e34ce809b14007ee3f6a811bf8c84e98f62f4f313883e06f5d96a259695267", func := "regimen/regimenlaw39.RunEnds", spec := "runEnds", inPlace := ["slices.overlaps[regimen/api.Kept]"], unfollowed := true, recurses := true, named := ["math/bits.divideError", "math/bits.overflowError"], apart := false, narrowed := true }
def RunEndsUptoSaid : Prop := runEndsUptoRow.holds Tryz.pinned (OpenSpec.upto runEndsSpec)

end Rows
end Go.Proofs.YtmomjjgokeffnaaGreat
