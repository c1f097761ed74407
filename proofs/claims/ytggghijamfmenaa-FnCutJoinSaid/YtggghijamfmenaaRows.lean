/-
  No cell of these rows narrows 'for every input' (looked for: loops, veiled, ifaces, maps, wideKeys, modest, calm, conditions, laid).
  DERIVED. THE GIVEN ROWS OF THIS SEAT. 9 by the template 'for every input the law returns true; each argument reads behind the call as it read before'; 0 by the template 'total and deterministic' (their statements: YtggghijamfmenaaTotals.lean).
  GIVEN WITH THE SEED: the statements are not yours to turn. If you find one false, say at which input.
  Laid BY PROGRAM, IN A SANDBOX (cutbox-rows.mjs): the forced cells as the released guide's own fill.sh prints them over the translation 1510442d486c7b53… (all of the seat's roots in one cut). By AI agents, Wed Nov 11 2026. No macro, syntax, notation, axiom, sorry.
-/
import Derived.Test.YtggghijamfmenaaChecked
import GoSem.Claim
import GoSem.ClaimJoined
import GoSem.ClaimMapViews
import Derived.JoinedTies
import Derived.KernelRfl
namespace Go.Proofs.Ytggghijamfmenaa
/- THE CELL 'sum', in the pinned program and in every row, IS THE sha256 OF THE DUMP (.gsa) THAT YtggghijamfmenaaProg.lean LOADS. Nothing in Lean hashes anything: it is a label: what it is worth is what the hold of that sum in a sandbox is worth. -/
noncomputable def Try.pinned : Pinned := { name := "ytggghijamfmenaa", sum := "1510442d486c7b5343c5be7ce0b79139401626772a0c93516308d84db5bfcfa9", checked := Try.checked }
namespace Rows
def none {H : Type} : Left H := { results := [], args := [] }

/-- 'laws.FnContract': WHATEVER THE INPUT: true; the input reads as it did. -/
def fnContractSpec : ChangeSpec := { name := "fnContract", fn := fun _ => fun
  | [d] => { results := [.lit (.bool true)], args := [d] }
  | _ => none }
def fnContractRow : OpenClaim := { program := "ytggghijamfmenaa", sum := "1510442d486c7b5343c5be7ce0b79139401626772a0c93516308d84db5bfcfa9", func := "loop.example/surfacemaps/laws.FnContract", spec := "fnContract", unfollowed := true, recurses := true, apart := false }
def FnContractSaid : Prop := fnContractRow.holds Try.pinned (OpenSpec.ofChange fnContractSpec)

/-- ITS FALSE NEIGHBOUR: 'it returns false'. Refute it at one input. -/
def fnContractWrong : ChangeSpec := { name := "fnContract", fn := fun _ => fun
  | [d] => { results := [.lit (.bool false)], args := [d] }
  | _ => none }
def FnContractWrongFalsely : Prop := fnContractRow.holds Try.pinned (OpenSpec.ofChange fnContractWrong)

/-- 'laws.FnExactEdgeContract': WHATEVER THE INPUT: true; the input reads as it did. -/
def fnExactEdgeContractSpec : ChangeSpec := { name := "fnExactEdgeContract", fn := fun _ => fun
  | [d1, d2] => { results := [.lit (.bool true)], args := [d1, d2] }
  | _ => none }
def fnExactEdgeContractRow : OpenClaim := { program := "ytggghijamfmenaa", sum := "1510442d486c7b5343c5be7ce0b79139401626772a0c93516308d84db5bfcfa9", func := "loop.example/surfacemaps/laws.FnExactEdgeContract", spec := "fnExactEdgeContract", unfollowed := true, recurses := true, apart := false }
def FnExactEdgeContractSaid : Prop := fnExactEdgeContractRow.holds Try.pinned (OpenSpec.ofChange fnExactEdgeContractSpec)

/-- ITS FALSE NEIGHBOUR: 'it returns false'. Refute it at one input. -/
def fnExactEdgeContractWrong : ChangeSpec := { name := "fnExactEdgeContract", fn := fun _ => fun
  | [d1, d2] => { results := [.lit (.bool false)], args := [d1, d2] }
  | _ => none }
def FnExactEdgeContractWrongFalsely : Prop := fnExactEdgeContractRow.holds Try.pinned (OpenSpec.ofChange fnExactEdgeContractWrong)

/-- 'laws.FnTutteQuad': WHATEVER THE INPUT: true; the input reads as it did. -/
def fnTutteQuadSpec : ChangeSpec := { name := "fnTutteQuad", fn := fun _ => fun
  | [d] => { results := [.lit (.bool true)], args := [d] }
  | _ => none }
def fnTutteQuadRow : OpenClaim := { program := "ytggghijamfmenaa", sum := "1510442d486c7b5343c5be7ce0b79139401626772a0c93516308d84db5bfcfa9", func := "loop.example/surfacemaps/laws.FnTutteQuad", spec := "fnTutteQuad", unfollowed := true, recurses := true, apart := false }
def FnTutteQuadSaid : Prop := fnTutteQuadRow.holds Try.pinned (OpenSpec.ofChange fnTutteQuadSpec)

/-- ITS FALSE NEIGHBOUR: 'it returns false'. Refute it at one input. -/
def fnTutteQuadWrong : ChangeSpec := { name := "fnTutteQuad", fn := fun _ => fun
  | [d] => { results := [.lit (.bool false)], args := [d] }
  | _ => none }
def FnTutteQuadWrongFalsely : Prop := fnTutteQuadRow.holds Try.pinned (OpenSpec.ofChange fnTutteQuadWrong)

/-- 'laws.FnDegrees': WHATEVER THE INPUT: true; the input reads as it did. -/
def fnDegreesSpec : ChangeSpec := { name := "fnDegrees", fn := fun _ => fun
  | [d] => { results := [.lit (.bool true)], args := [d] }
  | _ => none }
def fnDegreesRow : OpenClaim := { program := "ytggghijamfmenaa", sum := "1510442d486c7b5343c5be7ce0b79139401626772a0c93516308d84db5bfcfa9", func := "loop.example/surfacemaps/laws.FnDegrees", spec := "fnDegrees", recurses := true, apart := false }
def FnDegreesSaid : Prop := fnDegreesRow.holds Try.pinned (OpenSpec.ofChange fnDegreesSpec)

/-- ITS FALSE NEIGHBOUR: 'it returns false'. Refute it at one input. -/
def fnDegreesWrong : ChangeSpec := { name := "fnDegrees", fn := fun _ => fun
  | [d] => { results := [.lit (.bool false)], args := [d] }
  | _ => none }
def FnDegreesWrongFalsely : Prop := fnDegreesRow.holds Try.pinned (OpenSpec.ofChange fnDegreesWrong)

/-- 'laws.FnExactFactorEach': WHATEVER THE INPUT: true; the input reads as it did. -/
def fnExactFactorEachSpec : ChangeSpec := { name := "fnExactFactorEach", fn := fun _ => fun
  | [d] => { results := [.lit (.bool true)], args := [d] }
  | _ => none }
def fnExactFactorEachRow : OpenClaim := { program := "ytggghijamfmenaa", sum := "1510442d486c7b5343c5be7ce0b79139401626772a0c93516308d84db5bfcfa9", func := "loop.example/surfacemaps/laws.FnExactFactorEach", spec := "fnExactFactorEach", unfollowed := true, recurses := true, apart := false }
def FnExactFactorEachSaid : Prop := fnExactFactorEachRow.holds Try.pinned (OpenSpec.ofChange fnExactFactorEachSpec)

/-- ITS FALSE NEIGHBOUR: 'it returns false'. Refute it at one input. -/
def fnExactFactorEachWrong : ChangeSpec := { name := "fnExactFactorEach", fn := fun _ => fun
  | [d] => { results := [.lit (.bool false)], args := [d] }
  | _ => none }
def FnExactFactorEachWrongFalsely : Prop := fnExactFactorEachRow.holds Try.pinned (OpenSpec.ofChange fnExactFactorEachWrong)

/-- 'laws.FnExactFactorWhole': WHATEVER THE INPUT: true; the input reads as it did. -/
def fnExactFactorWholeSpec : ChangeSpec := { name := "fnExactFactorWhole", fn := fun _ => fun
  | [d] => { results := [.lit (.bool true)], args := [d] }
  | _ => none }
def fnExactFactorWholeRow : OpenClaim := { program := "ytggghijamfmenaa", sum := "1510442d486c7b5343c5be7ce0b79139401626772a0c93516308d84db5bfcfa9", func := "loop.example/surfacemaps/laws.FnExactFactorWhole", spec := "fnExactFactorWhole", unfollowed := true, recurses := true, apart := false }
def FnExactFactorWholeSaid : Prop := fnExactFactorWholeRow.holds Try.pinned (OpenSpec.ofChange fnExactFactorWholeSpec)

/-- ITS FALSE NEIGHBOUR: 'it returns false'. Refute it at one input. -/
def fnExactFactorWholeWrong : ChangeSpec := { name := "fnExactFactorWhole", fn := fun _ => fun
  | [d] => { results := [.lit (.bool false)], args := [d] }
  | _ => none }
def FnExactFactorWholeWrongFalsely : Prop := fnExactFactorWholeRow.holds Try.pinned (OpenSpec.ofChange fnExactFactorWholeWrong)

/-- 'laws.FnCutJoin': WHATEVER THE INPUT: true; the input reads as it did. -/
def fnCutJoinSpec : ChangeSpec := { name := "fnCutJoin", fn := fun _ => fun
  | [d] => { results := [.lit (.bool true)], args := [d] }
  | _ => none }
def fnCutJoinRow : OpenClaim := { program := "ytggghijamfmenaa", sum := "1510442d486c7b5343c5be7ce0b79139401626772a0c93516308d84db5bfcfa9", func := "loop.example/surfacemaps/laws.FnCutJoin", spec := "fnCutJoin", unfollowed := true, recurses := true, apart := false }
def FnCutJoinSaid : Prop := fnCutJoinRow.holds Try.pinned (OpenSpec.ofChange fnCutJoinSpec)

/-- ITS FALSE NEIGHBOUR: 'it returns false'. Refute it at one input. -/
def fnCutJoinWrong : ChangeSpec := { name := "fnCutJoin", fn := fun _ => fun
  | [d] => { results := [.lit (.bool false)], args := [d] }
  | _ => none }
def FnCutJoinWrongFalsely : Prop := fnCutJoinRow.holds Try.pinned (OpenSpec.ofChange fnCutJoinWrong)

/-- 'laws.FnWhole': WHATEVER THE INPUT: true; the input reads as it did. -/
def fnWholeSpec : ChangeSpec := { name := "fnWhole", fn := fun _ => fun
  | [d] => { results := [.lit (.bool true)], args := [d] }
  | _ => none }
def fnWholeRow : OpenClaim := { program := "ytggghijamfmenaa", sum := "1510442d486c7b5343c5be7ce0b79139401626772a0c93516308d84db5bfcfa9", func := "loop.example/surfacemaps/laws.FnWhole", spec := "fnWhole", unfollowed := true, recurses := true, apart := false }
def FnWholeSaid : Prop := fnWholeRow.holds Try.pinned (OpenSpec.ofChange fnWholeSpec)

/-- ITS FALSE NEIGHBOUR: 'it returns false'. Refute it at one input. -/
def fnWholeWrong : ChangeSpec := { name := "fnWhole", fn := fun _ => fun
  | [d] => { results := [.lit (.bool false)], args := [d] }
  | _ => none }
def FnWholeWrongFalsely : Prop := fnWholeRow.holds Try.pinned (OpenSpec.ofChange fnWholeWrong)

/-- 'laws.FnFactorEach': WHATEVER THE INPUT: true; the input reads as it did. -/
def fnFactorEachSpec : ChangeSpec := { name := "fnFactorEach", fn := fun _ => fun
  | [d] => { results := [.lit (.bool true)], args := [d] }
  | _ => none }
def fnFactorEachRow : OpenClaim := { program := "ytggghijamfmenaa", sum := "1510442d486c7b5343c5be7ce0b79139401626772a0c93516308d84db5bfcfa9", func := "loop.example/surfacemaps/laws.FnFactorEach", spec := "fnFactorEach", unfollowed := true, recurses := true, apart := false }
def FnFactorEachSaid : Prop := fnFactorEachRow.holds Try.pinned (OpenSpec.ofChange fnFactorEachSpec)

/-- ITS FALSE NEIGHBOUR: 'it returns false'. Refute it at one input. -/
def fnFactorEachWrong : ChangeSpec := { name := "fnFactorEach", fn := fun _ => fun
  | [d] => { results := [.lit (.bool false)], args := [d] }
  | _ => none }
def FnFactorEachWrongFalsely : Prop := fnFactorEachRow.holds Try.pinned (OpenSpec.ofChange fnFactorEachWrong)

/- THE SECOND FORM. 'bulk': how many values and letters a reading holds, each counted each time it is reached (what is shared counts as often as it is met; a slice's spare places count too). A statement '..UptoSaid' is the law's where the arguments, and the package variables that the reading takes, are together of bulk at most 1048576: NARROWER than '..Said'. Prove '..Said' where nothing that the law and all that it calls make is longer than what came in: it says more and counts as full. Else prove '..UptoSaid'. A law counts once. -/
mutual
def uptoBulk {H : Type} : DataW H → Nat
  | .lit (.string bytes) => bytes.length + 1
  | .lit _ => 1
  | .nil => 1
  | .ptr d => uptoBulk d + 1
  | .slice elems spare => uptoBulkAll elems + uptoBulkAll spare + 1
  | .agg parts => uptoBulkAll parts + 1
  | .iface _ d => uptoBulk d + 1
  | .map entries => uptoBulkEntries entries + 1
  | .held _ => 1
def uptoBulkAll {H : Type} : List (DataW H) → Nat
  | [] => 0
  | d :: r => uptoBulk d + uptoBulkAll r
def uptoBulkEntries {H : Type} : List (Lit × DataW H) → Nat
  | [] => 0
  | x :: r => uptoBulkEntry x + uptoBulkEntries r
def uptoBulkEntry {H : Type} : Lit × DataW H → Nat
  | (.string bytes, d) => bytes.length + uptoBulk d + 1
  | (_, d) => uptoBulk d + 1
 end
def uptoSmall : (H : Type) → List (DataW H) → Bool := fun _ ds => decide (uptoBulkAll ds ≤ 1048576)
def OpenSpec.upto (s : _root_.Go.ChangeSpec) : _root_.Go.OpenSpec := { _root_.Go.OpenSpec.ofChange s with cond := some uptoSmall }

/-- 'laws.FnContract', WHERE WHAT IT READS IS OF BULK AT MOST 1048576: true; the input reads as it did. -/
def fnContractUptoRow : OpenClaim := { program := "ytggghijamfmenaa", sum := "1510442d486c7b5343c5be7ce0b79139401626772a0c93516308d84db5bfcfa9", func := "loop.example/surfacemaps/laws.FnContract", spec := "fnContract", unfollowed := true, recurses := true, apart := false, narrowed := true }
def FnContractUptoSaid : Prop := fnContractUptoRow.holds Try.pinned (OpenSpec.upto fnContractSpec)

/-- 'laws.FnExactEdgeContract', WHERE WHAT IT READS IS OF BULK AT MOST 1048576: true; the input reads as it did. -/
def fnExactEdgeContractUptoRow : OpenClaim := { program := "ytggghijamfmenaa", sum := "1510442d486c7b5343c5be7ce0b79139401626772a0c93516308d84db5bfcfa9", func := "loop.example/surfacemaps/laws.FnExactEdgeContract", spec := "fnExactEdgeContract", unfollowed := true, recurses := true, apart := false, narrowed := true }
def FnExactEdgeContractUptoSaid : Prop := fnExactEdgeContractUptoRow.holds Try.pinned (OpenSpec.upto fnExactEdgeContractSpec)

/-- 'laws.FnTutteQuad', WHERE WHAT IT READS IS OF BULK AT MOST 1048576: true; the input reads as it did. -/
def fnTutteQuadUptoRow : OpenClaim := { program := "ytggghijamfmenaa", sum := "1510442d486c7b5343c5be7ce0b79139401626772a0c93516308d84db5bfcfa9", func := "loop.example/surfacemaps/laws.FnTutteQuad", spec := "fnTutteQuad", unfollowed := true, recurses := true, apart := false, narrowed := true }
def FnTutteQuadUptoSaid : Prop := fnTutteQuadUptoRow.holds Try.pinned (OpenSpec.upto fnTutteQuadSpec)

/-- 'laws.FnDegrees', WHERE WHAT IT READS IS OF BULK AT MOST 1048576: true; the input reads as it did. -/
def fnDegreesUptoRow : OpenClaim := { program := "ytggghijamfmenaa", sum := "1510442d486c7b5343c5be7ce0b79139401626772a0c93516308d84db5bfcfa9", func := "loop.example/surfacemaps/laws.FnDegrees", spec := "fnDegrees", recurses := true, apart := false, narrowed := true }
def FnDegreesUptoSaid : Prop := fnDegreesUptoRow.holds Try.pinned (OpenSpec.upto fnDegreesSpec)

/-- 'laws.FnExactFactorEach', WHERE WHAT IT READS IS OF BULK AT MOST 1048576: true; the input reads as it did. -/
def fnExactFactorEachUptoRow : OpenClaim := { program := "ytggghijamfmenaa", sum := "1510442d486c7b5343c5be7ce0b79139401626772a0c93516308d84db5bfcfa9", func := "loop.example/surfacemaps/laws.FnExactFactorEach", spec := "fnExactFactorEach", unfollowed := true, recurses := true, apart := false, narrowed := true }
def FnExactFactorEachUptoSaid : Prop := fnExactFactorEachUptoRow.holds Try.pinned (OpenSpec.upto fnExactFactorEachSpec)

/-- 'laws.FnExactFactorWhole', WHERE WHAT IT READS IS OF BULK AT MOST 1048576: true; the input reads as it did. -/
def fnExactFactorWholeUptoRow : OpenClaim := { program := "ytggghijamfmenaa", sum := "1510442d486c7b5343c5be7ce0b79139401626772a0c93516308d84db5bfcfa9", func := "loop.example/surfacemaps/laws.FnExactFactorWhole", spec := "fnExactFactorWhole", unfollowed := true, recurses := true, apart := false, narrowed := true }
def FnExactFactorWholeUptoSaid : Prop := fnExactFactorWholeUptoRow.holds Try.pinned (OpenSpec.upto fnExactFactorWholeSpec)

/-- 'laws.FnCutJoin', WHERE WHAT IT READS IS OF BULK AT MOST 1048576: true; the input reads as it did. -/
def fnCutJoinUptoRow : OpenClaim := { program := "ytggghijamfmenaa", sum := "1510442d486c7b5343c5be7ce0b79139401626772a0c93516308d84db5bfcfa9", func := "loop.example/surfacemaps/laws.FnCutJoin", spec := "fnCutJoin", unfollowed := true, recurses := true, apart := false, narrowed := true }
def FnCutJoinUptoSaid : Prop := fnCutJoinUptoRow.holds Try.pinned (OpenSpec.upto fnCutJoinSpec)

/-- 'laws.FnWhole', WHERE WHAT IT READS IS OF BULK AT MOST 1048576: true; the input reads as it did. -/
def fnWholeUptoRow : OpenClaim := { program := "ytggghijamfmenaa", sum := "1510442d486c7b5343c5be7ce0b79139401626772a0c93516308d84db5bfcfa9", func := "loop.example/surfacemaps/laws.FnWhole", spec := "fnWhole", unfollowed := true, recurses := true, apart := false, narrowed := true }
def FnWholeUptoSaid : Prop := fnWholeUptoRow.holds Try.pinned (OpenSpec.upto fnWholeSpec)

/-- 'laws.FnFactorEach', WHERE WHAT IT READS IS OF BULK AT MOST 1048576: true; the input reads as it did. -/
def fnFactorEachUptoRow : OpenClaim := { program := "ytggghijamfmenaa", sum := "1510442d486c7b5343c5be7ce0b79139401626772a0c93516308d84db5bfcfa9", func := "loop.example/surfacemaps/laws.FnFactorEach", spec := "fnFactorEach", unfollowed := true, recurses := true, apart := false, narrowed := true }
def FnFactorEachUptoSaid : Prop := fnFactorEachUptoRow.holds Try.pinned (OpenSpec.upto fnFactorEachSpec)

end Rows
end Go.Proofs.Ytggghijamfmenaa
