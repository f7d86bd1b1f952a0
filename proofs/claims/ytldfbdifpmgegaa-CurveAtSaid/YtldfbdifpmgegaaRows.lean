/-
  No cell of these rows narrows 'for every input' (looked for: loops, veiled, ifaces, maps, wideKeys, modest, calm, conditions, laid).
  DERIVED. THE GIVEN ROWS OF THIS SEAT. 6 by the template 'for every input the law returns true; each argument reads behind the call as it read before'; 0 by the template 'total and deterministic' (their statements: YtldfbdifpmgegaaTotals.lean).
  GIVEN WITH THE SEED: the statements are not yours to turn. If you find one false, say at which input.
  Laid BY PROGRAM, IN A SANDBOX (cutbox-rows.mjs): the forced cells as the released guide's own fill.sh prints them over the translation ac85927f0b77bc68… (all of the seat's roots in one cut). By AI agents, Wed Nov 11 2026. No macro, syntax, notation, axiom, sorry.
-/
import Derived.Test.YtldfbdifpmgegaaChecked
import GoSem.Claim
import GoSem.ClaimJoined
import GoSem.ClaimMapViews
import Derived.JoinedTies
import Derived.KernelRfl
namespace Go.Proofs.Ytldfbdifpmgegaa
/- THE CELL 'sum', in the pinned program and in every row, IS THE sha256 OF THE DUMP (.gsa) THAT YtldfbdifpmgegaaProg.lean LOADS. Nothing in Lean hashes anything: it is a label: what it is worth is what the hold of that sum in a sandbox is worth. -/
noncomputable def Try.pinned : Pinned := { name := "ytldfbdifpmgegaa", sum := "ac85927f0b77bc68aa402c285e2f9a30abdb7a75bd5473a9c2af532f09f155c2", checked := Try.checked }
namespace Rows
def none {H : Type} : Left H := { results := [], args := [] }

/-- 'regimenlaw52.RenameOf': WHATEVER THE INPUT: true; the input reads as it did. -/
def renameOfSpec : ChangeSpec := { name := "renameOf", fn := fun _ => fun
  | [d1, d2] => { results := [.lit (.bool true)], args := [d1, d2] }
  | _ => none }
def renameOfRow : OpenClaim := { program := "ytldfbdifpmgegaa", sum := "ac85927f0b77bc68aa402c285e2f9a30abdb7a75bd5473a9c2af532f09f155c2", func := "regimen/regimenlaw52.RenameOf", spec := "renameOf", apart := false }
def RenameOfSaid : Prop := renameOfRow.holds Try.pinned (OpenSpec.ofChange renameOfSpec)

/-- ITS FALSE NEIGHBOUR: 'it returns false'. Refute it at one input. -/
def renameOfWrong : ChangeSpec := { name := "renameOf", fn := fun _ => fun
  | [d1, d2] => { results := [.lit (.bool false)], args := [d1, d2] }
  | _ => none }
def RenameOfWrongFalsely : Prop := renameOfRow.holds Try.pinned (OpenSpec.ofChange renameOfWrong)

/-- 'regimenlaw35.ReadingChecks': WHATEVER THE INPUT: true; the input reads as it did. -/
def readingChecksSpec : ChangeSpec := { name := "readingChecks", fn := fun _ => fun
  | [d1, d2] => { results := [.lit (.bool true)], args := [d1, d2] }
  | _ => none }
def readingChecksRow : OpenClaim := { program := "ytldfbdifpmgegaa", sum := "ac85927f0b77bc68aa402c285e2f9a30abdb7a75bd5473a9c2af532f09f155c2", func := "regimen/regimenlaw35.ReadingChecks", spec := "readingChecks", unfollowed := true, recurses := true, apart := false }
def ReadingChecksSaid : Prop := readingChecksRow.holds Try.pinned (OpenSpec.ofChange readingChecksSpec)

/-- ITS FALSE NEIGHBOUR: 'it returns false'. Refute it at one input. -/
def readingChecksWrong : ChangeSpec := { name := "readingChecks", fn := fun _ => fun
  | [d1, d2] => { results := [.lit (.bool false)], args := [d1, d2] }
  | _ => none }
def ReadingChecksWrongFalsely : Prop := readingChecksRow.holds Try.pinned (OpenSpec.ofChange readingChecksWrong)

/-- 'regimenlaw35.ReadingTells': WHATEVER THE INPUT: true; the input reads as it did. -/
def readingTellsSpec : ChangeSpec := { name := "readingTells", fn := fun _ => fun
  | [d1, d2, d3] => { results := [.lit (.bool true)], args := [d1, d2, d3] }
  | _ => none }
def readingTellsRow : OpenClaim := { program := "ytldfbdifpmgegaa", sum := "ac85927f0b77bc68aa402c285e2f9a30abdb7a75bd5473a9c2af532f09f155c2", func := "regimen/regimenlaw35.ReadingTells", spec := "readingTells", unfollowed := true, recurses := true, apart := false }
def ReadingTellsSaid : Prop := readingTellsRow.holds Try.pinned (OpenSpec.ofChange readingTellsSpec)

/-- ITS FALSE NEIGHBOUR: 'it returns false'. Refute it at one input. -/
def readingTellsWrong : ChangeSpec := { name := "readingTells", fn := fun _ => fun
  | [d1, d2, d3] => { results := [.lit (.bool false)], args := [d1, d2, d3] }
  | _ => none }
def ReadingTellsWrongFalsely : Prop := readingTellsRow.holds Try.pinned (OpenSpec.ofChange readingTellsWrong)

/-- 'regimenlaw53.ScaleOf': WHATEVER THE INPUT: true; the input reads as it did. -/
def scaleOfSpec : ChangeSpec := { name := "scaleOf", fn := fun _ => fun
  | [d1, d2, d3] => { results := [.lit (.bool true)], args := [d1, d2, d3] }
  | _ => none }
def scaleOfRow : OpenClaim := { program := "ytldfbdifpmgegaa", sum := "ac85927f0b77bc68aa402c285e2f9a30abdb7a75bd5473a9c2af532f09f155c2", func := "regimen/regimenlaw53.ScaleOf", spec := "scaleOf", named := ["math/bits.divideError", "math/bits.overflowError"], apart := false }
def ScaleOfSaid : Prop := scaleOfRow.holds Try.pinned (OpenSpec.ofChange scaleOfSpec)

/-- ITS FALSE NEIGHBOUR: 'it returns false'. Refute it at one input. -/
def scaleOfWrong : ChangeSpec := { name := "scaleOf", fn := fun _ => fun
  | [d1, d2, d3] => { results := [.lit (.bool false)], args := [d1, d2, d3] }
  | _ => none }
def ScaleOfWrongFalsely : Prop := scaleOfRow.holds Try.pinned (OpenSpec.ofChange scaleOfWrong)

/-- 'regimenlaw09.CurveRises': WHATEVER THE INPUT: true; the input reads as it did. -/
def curveRisesSpec : ChangeSpec := { name := "curveRises", fn := fun _ => fun
  | [d1, d2, d3] => { results := [.lit (.bool true)], args := [d1, d2, d3] }
  | _ => none }
def curveRisesRow : OpenClaim := { program := "ytldfbdifpmgegaa", sum := "ac85927f0b77bc68aa402c285e2f9a30abdb7a75bd5473a9c2af532f09f155c2", func := "regimen/regimenlaw09.CurveRises", spec := "curveRises", named := ["math/bits.divideError", "math/bits.overflowError"], apart := false }
def CurveRisesSaid : Prop := curveRisesRow.holds Try.pinned (OpenSpec.ofChange curveRisesSpec)

/-- ITS FALSE NEIGHBOUR: 'it returns false'. Refute it at one input. -/
def curveRisesWrong : ChangeSpec := { name := "curveRises", fn := fun _ => fun
  | [d1, d2, d3] => { results := [.lit (.bool false)], args := [d1, d2, d3] }
  | _ => none }
def CurveRisesWrongFalsely : Prop := curveRisesRow.holds Try.pinned (OpenSpec.ofChange curveRisesWrong)

/-- 'regimenlaw09.CurveAt': WHATEVER THE INPUT: true; the input reads as it did. -/
def curveAtSpec : ChangeSpec := { name := "curveAt", fn := fun _ => fun
  | [d1, d2, d3] => { results := [.lit (.bool true)], args := [d1, d2, d3] }
  | _ => none }
def curveAtRow : OpenClaim := { program := "ytldfbdifpmgegaa", sum := "ac85927f0b77bc68aa402c285e2f9a30abdb7a75bd5473a9c2af532f09f155c2", func := "regimen/regimenlaw09.CurveAt", spec := "curveAt", recurses := true, named := ["math/bits.divideError", "math/bits.overflowError"], apart := false }
def CurveAtSaid : Prop := curveAtRow.holds Try.pinned (OpenSpec.ofChange curveAtSpec)

/-- ITS FALSE NEIGHBOUR: 'it returns false'. Refute it at one input. -/
def curveAtWrong : ChangeSpec := { name := "curveAt", fn := fun _ => fun
  | [d1, d2, d3] => { results := [.lit (.bool false)], args := [d1, d2, d3] }
  | _ => none }
def CurveAtWrongFalsely : Prop := curveAtRow.holds Try.pinned (OpenSpec.ofChange curveAtWrong)

/- THE SECOND FORM. 'bulk': how many values and letters a reading holds, each counted each time it is reached (what is shared counts as often as it is met; a slice's spare places count too). A statement '..UptoSaid' is the law's where the arguments, and the package variables that the reading takes, are together of bulk at most 1048576: NARROWER than '..Said'. Prove '..Said' where nothing that the law and all that it calls make is longer than what came in: it says more and counts as full. Else prove '..UptoSaid'. A law counts once. -/
mutual
def uptoBulk {H : Type} : DataW H → Nat
  | .lit (.string bytes) => bytes.length + 1
  | .lit _ => 1
  | .nil => 1
  | .ptr d => uptoBulk d + 1
  | .slice elems spare => uptoBulkAll elems + uptoBulkAll spare + 1
  | .agg parts => uptoBulkAll parts + 1
  | .iface _ d => uptoBulk d + 1
  | .map entries => uptoBulkEntries entries + 1
  | .held _ => 1
def uptoBulkAll {H : Type} : List (DataW H) → Nat
  | [] => 0
  | d :: r => uptoBulk d + uptoBulkAll r
def uptoBulkEntries {H : Type} : List (Lit × DataW H) → Nat
  | [] => 0
  | x :: r => uptoBulkEntry x + uptoBulkEntries r
def uptoBulkEntry {H : Type} : Lit × DataW H → Nat
  | (.string bytes, d) => bytes.length + uptoBulk d + 1
  | (_, d) => uptoBulk d + 1
 end
def uptoSmall : (H : Type) → List (DataW H) → Bool := fun _ ds => decide (uptoBulkAll ds ≤ 1048576)
def OpenSpec.upto (s : _root_.Go.ChangeSpec) : _root_.Go.OpenSpec := { _root_.Go.OpenSpec.ofChange s with cond := some uptoSmall }

/-- 'regimenlaw52.RenameOf', WHERE WHAT IT READS IS OF BULK AT MOST 1048576: true; the input reads as it did. -/
def renameOfUptoRow : OpenClaim := { program := "ytldfbdifpmgegaa", sum := "ac85927f0b77bc68aa402c285e2f9a30abdb7a75bd5473a9c2af532f09f155c2", func := "regimen/regimenlaw52.RenameOf", spec := "renameOf", apart := false, narrowed := true }
def RenameOfUptoSaid : Prop := renameOfUptoRow.holds Try.pinned (OpenSpec.upto renameOfSpec)

/-- 'regimenlaw35.ReadingChecks', WHERE WHAT IT READS IS OF BULK AT MOST 1048576: true; the input reads as it did. -/
def readingChecksUptoRow : OpenClaim := { program := "ytldfbdifpmgegaa", sum := "ac85927f0b77bc68aa402c285e2f9a30abdb7a75bd5473a9c2af532f09f155c2", func := "regimen/regimenlaw35.ReadingChecks", spec := "readingChecks", unfollowed := true, recurses := true, apart := false, narrowed := true }
def ReadingChecksUptoSaid : Prop := readingChecksUptoRow.holds Try.pinned (OpenSpec.upto readingChecksSpec)

/-- 'regimenlaw35.ReadingTells', WHERE WHAT IT READS IS OF BULK AT MOST 1048576: true; the input reads as it did. -/
def readingTellsUptoRow : OpenClaim := { program := "ytldfbdifpmgegaa", sum := "ac85927f0b77bc68aa402c285e2f9a30abdb7a75bd5473a9c2af532f09f155c2", func := "regimen/regimenlaw35.ReadingTells", spec := "readingTells", unfollowed := true, recurses := true, apart := false, narrowed := true }
def ReadingTellsUptoSaid : Prop := readingTellsUptoRow.holds Try.pinned (OpenSpec.upto readingTellsSpec)

/-- 'regimenlaw53.ScaleOf', WHERE WHAT IT READS IS OF BULK AT MOST 1048576: true; the input reads as it did. -/
def scaleOfUptoRow : OpenClaim := { program := "ytldfbdifpmgegaa", sum := "ac85927f0b77bc68aa402c285e2f9a30abdb7a75bd5473a9c2af532f09f155c2", func := "regimen/regimenlaw53.ScaleOf", spec := "scaleOf", named := ["math/bits.divideError", "math/bits.overflowError"], apart := false, narrowed := true }
def ScaleOfUptoSaid : Prop := scaleOfUptoRow.holds Try.pinned (OpenSpec.upto scaleOfSpec)

/-- 'regimenlaw09.CurveRises', WHERE WHAT IT READS IS OF BULK AT MOST 1048576: true; the input reads as it did. -/
def curveRisesUptoRow : OpenClaim := { program := "ytldfbdifpmgegaa", sum := "ac85927f0b77bc68aa402c285e2f9a30abdb7a75bd5473a9c2af532f09f155c2", func := "regimen/regimenlaw09.CurveRises", spec := "curveRises", named := ["math/bits.divideError", "math/bits.overflowError"], apart := false, narrowed := true }
def CurveRisesUptoSaid : Prop := curveRisesUptoRow.holds Try.pinned (OpenSpec.upto curveRisesSpec)

/-- 'regimenlaw09.CurveAt', WHERE WHAT IT READS IS OF BULK AT MOST 1048576: true; the input reads as it did. -/
def curveAtUptoRow : OpenClaim := { program := "ytldfbdifpmgegaa", sum := "ac85927f0b77bc68aa402c285e2f9a30abdb7a75bd5473a9c2af532f09f155c2", func := "regimen/regimenlaw09.CurveAt", spec := "curveAt", recurses := true, named := ["math/bits.divideError", "math/bits.overflowError"], apart := false, narrowed := true }
def CurveAtUptoSaid : Prop := curveAtUptoRow.holds Try.pinned (OpenSpec.upto curveAtSpec)

end Rows
end Go.Proofs.Ytldfbdifpmgegaa
