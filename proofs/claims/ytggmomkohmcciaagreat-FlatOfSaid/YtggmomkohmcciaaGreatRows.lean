/-
  No cell of these rows narrows 'for every input' (looked for: loops, veiled, ifaces, maps, wideKeys, modest, calm, conditions, laid).
  DERIVED. THE GIVEN ROWS OF THIS SEAT. 2 by the template 'for every input the law returns true; each argument reads behind the call as it read before'; 0 by the template 'total and deterministic' (their statements: YtggmomkohmcciaaGreatTotals.lean).
  GIVEN WITH THE SEED: the statements are not yours to turn. If you find one false, say at which input.
  Laid BY PROGRAM, IN A SANDBOX (cutbox-rows.mjs): the forced cells as the released guide's own fill.sh prints them over the translation b88f55c989d535e2… (all of the seat's roots in one cut). By AI agents, Wed Nov 11 2026. No macro, syntax, notation, axiom, sorry.
-/
import Derived.Test.YtggmomkohmcciaaGreatChecked
import GoSem.Claim
import GoSem.ClaimJoined
import GoSem.ClaimMapViews
import Derived.JoinedTies
import Derived.KernelRfl
namespace Go.Proofs.YtggmomkohmcciaaGreat
/- THE CELL 'sum', in the pinned program and in every row, IS THE sha256 OF THE DUMP (.gsa) THAT YtggmomkohmcciaaGreatProg.lean LOADS. Nothing in Lean hashes anything: it is a label: what it is worth is what the hold of that sum in a sandbox is worth. -/
noncomputable def Tryz.pinned : Pinned := { name := "ytggmomkohmcciaagreat", sum := "b88f55c989d535e2f94508ef24f54e3107d05b588d0d6f4f10a07249652b9685", checked := Tryz.checked }
namespace Rows
def none {H : Type} : Left H := { results := [], args := [] }

/-- 'regimenlaw25.FlatOf': WHATEVER THE INPUT: true; the input reads as it did. -/
def flatOfSpec : ChangeSpec := { name := "flatOf", fn := fun _ => fun
  | [d1, d2, d3] => { results := [.lit (.bool true)], args := [d1, d2, d3] }
  | _ => none }
def flatOfRow : OpenClaim := { program := "ytggmomkohmcciaagreat", sum := "b88f55c989d535e2f94508ef24f54e3107d05b588d0d6f4f10a07249652b9685", func := "regimen/regimenlaw25.FlatOf", spec := "flatOf", unfollowed := true, recurses := true, named := ["math/bits.divideError", "math/bits.overflowError"], apart := false }
def FlatOfSaid : Prop := flatOfRow.holds Tryz.pinned (OpenSpec.ofChange flatOfSpec)

/-- ITS FALSE NEIGHBOUR: 'it returns false'. Refute it at one input. -/
def flatOfWrong : ChangeSpec := { name := "flatOf", fn := fun _ => fun
  | [d1, d2, d3] => { results := [.lit (.bool false)], args := [d1, d2, d3] }
  | _ => none }
def FlatOfWrongFalsely : Prop := flatOfRow.holds Tryz.pinned (OpenSpec.ofChange flatOfWrong)

/-- 'regimenlaw25.FlatAt': WHATEVER THE INPUT: true; the input reads as it did. -/
def flatAtSpec : ChangeSpec := { name := "flatAt", fn := fun _ => fun
  | [d1, d2, d3] => { results := [.lit (.bool true)], args := [d1, d2, d3] }
  | _ => none }
def flatAtRow : OpenClaim := { program := "ytggmomkohmcciaagreat", sum := "b88f55c989d535e2f94508ef24f54e3107d05b588d0d6f4f10a07249652b9685", func := "regimen/regimenlaw25.FlatAt", spec := "flatAt", unfollowed := true, recurses := true, named := ["math/bits.divideError", "math/bits.overflowError"], apart := false }
def FlatAtSaid : Prop := flatAtRow.holds Tryz.pinned (OpenSpec.ofChange flatAtSpec)

/-- ITS FALSE NEIGHBOUR: 'it returns false'. Refute it at one input. -/
def flatAtWrong : ChangeSpec := { name := "flatAt", fn := fun _ => fun
  | [d1, d2, d3] => { results := [.lit (.bool false)], args := [d1, d2, d3] }
  | _ => none }
def FlatAtWrongFalsely : Prop := flatAtRow.holds Tryz.pinned (OpenSpec.ofChange flatAtWrong)

/- THE SECOND FORM. 'bulk': how many values and letters a reading holds, each counted each time it is reached (what is shared counts as often as it is met; a slice's spare places count too). A statement '..UptoSaid' is the law's where the arguments, and the package variables that the reading takes, are together of bulk at most 1048576: NARROWER than '..Said'. Prove '..Said' where nothing that the law and all that it calls make is longer than what came in: it says more and counts as full. Else prove '..UptoSaid'. A law counts once. -/
mutual
def uptoBulk {H : Type} : DataW H → Nat
  | .lit (.string bytes) => bytes.length + 1
  | .lit _ => 1
  | .nil => 1
  | .ptr d => uptoBulk d + 1
  | .slice elems spare => uptoBulkAll elems + uptoBulkAll spare + 1
  | .agg parts => uptoBulkAll parts + 1
  | .iface _ d => uptoBulk d + 1
  | .map entries => uptoBulkEntries entries + 1
  | .held _ => 1
def uptoBulkAll {H : Type} : List (DataW H) → Nat
  | [] => 0
  | d :: r => uptoBulk d + uptoBulkAll r
def uptoBulkEntries {H : Type} : List (Lit × DataW H) → Nat
  | [] => 0
  | x :: r => uptoBulkEntry x + uptoBulkEntries r
def uptoBulkEntry {H : Type} : Lit × DataW H → Nat
  | (.string bytes, d) => bytes.length + uptoBulk d + 1
  | (_, d) => uptoBulk d + 1
 end
def uptoSmall : (H : Type) → List (DataW H) → Bool := fun _ ds => decide (uptoBulkAll ds ≤ 1048576)
def OpenSpec.upto (s : _root_.Go.ChangeSpec) : _root_.Go.OpenSpec := { _root_.Go.OpenSpec.ofChange s with cond := some uptoSmall }

/-- 'regimenlaw25.FlatOf', WHERE WHAT IT READS IS OF BULK AT MOST 1048576: true; the input reads as it did. -/
def flatOfUptoRow : OpenClaim := { program := "ytggmomkohmcciaagreat", sum := "b88f55c989d535e2f94508ef24f54e3107d05b588d0d6f4f10a07249652b9685", func := "regimen/regimenlaw25.FlatOf", spec := "flatOf", unfollowed := true, recurses := true, named := ["math/bits.divideError", "math/bits.overflowError"], apart := false, narrowed := true }
def FlatOfUptoSaid : Prop := flatOfUptoRow.holds Tryz.pinned (OpenSpec.upto flatOfSpec)

/-- 'regimenlaw25.FlatAt', WHERE WHAT IT READS IS OF BULK AT MOST 1048576: true; the input reads as it did. -/
def flatAtUptoRow : OpenClaim := { program := "ytggmomkohmcciaagreat", sum := "b88f55c989d535e2f94508ef24f54e3107d05b588d0d6f4f10a07249652b9685", func := "regimen/regimenlaw25.FlatAt", spec := "flatAt", unfollowed := true, recurses := true, named := ["math/bits.divideError", "math/bits.overflowError"], apart := false, narrowed := true }
def FlatAtUptoSaid : Prop := flatAtUptoRow.holds Tryz.pinned (OpenSpec.upto flatAtSpec)

end Rows
end Go.Proofs.YtggmomkohmcciaaGreat
