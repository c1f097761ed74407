/-
  No cell of these rows narrows 'for every input' (looked for: loops, veiled, ifaces, maps, wideKeys, modest, calm, conditions, laid).
  DERIVED. THE GIVEN ROWS OF THIS SEAT. 12 by the template 'for every input the law returns true; each argument reads behind the call as it read before'; 0 by the template 'total and deterministic' (their statements: YtlpbalebodlipaaTotals.lean).
  GIVEN WITH THE SEED: the statements are not yours to turn. If you find one false, say at which input.
  Laid BY PROGRAM, IN A SANDBOX (cutbox-rows.mjs): the forced cells as the released guide's own fill.sh prints them over the translation 78e6fe60df9a3672… (all of the seat's roots in one cut). By AI agents, Wed Nov 11 2026. No macro, syntax, notation, axiom, sorry.
-/
import Derived.Test.YtlpbalebodlipaaChecked
import GoSem.Claim
import GoSem.ClaimJoined
import GoSem.ClaimMapViews
import Derived.JoinedTies
import Derived.KernelRfl
namespace Go.Proofs.Ytlpbalebodlipaa
/- THE CELL 'sum', in the pinned program and in every row, IS THE sha256 OF THE DUMP (.gsa) THAT YtlpbalebodlipaaProg.lean LOADS. Nothing in Lean hashes anything: it is a label: what it is worth is what the hold of that sum in a sandbox is worth. -/
noncomputable def Try.pinned : Pinned := { name := "ytlpbalebodlipaa", sum := "78e6fe60df9a36724a1112dc9c03dd533e797d01c7f7f77c5d4b637d303fd110", checked := Try.checked }
namespace Rows
def none {H : Type} : Left H := { results := [], args := [] }

/-- 'laws.FnTree': WHATEVER THE INPUT: true; the input reads as it did. -/
def fnTreeSpec : ChangeSpec := { name := "fnTree", fn := fun _ => fun
  | [d] => { results := [.lit (.bool true)], args := [d] }
  | _ => none }
def fnTreeRow : OpenClaim := { program := "ytlpbalebodlipaa", sum := "78e6fe60df9a36724a1112dc9c03dd533e797d01c7f7f77c5d4b637d303fd110", func := "loop.example/surfacemaps/laws.FnTree", spec := "fnTree", apart := false }
def FnTreeSaid : Prop := fnTreeRow.holds Try.pinned (OpenSpec.ofChange fnTreeSpec)

/-- ITS FALSE NEIGHBOUR: 'it returns false'. Refute it at one input. -/
def fnTreeWrong : ChangeSpec := { name := "fnTree", fn := fun _ => fun
  | [d] => { results := [.lit (.bool false)], args := [d] }
  | _ => none }
def FnTreeWrongFalsely : Prop := fnTreeRow.holds Try.pinned (OpenSpec.ofChange fnTreeWrong)

/-- 'laws.FnExactTreeQuad': WHATEVER THE INPUT: true; the input reads as it did. -/
def fnExactTreeQuadSpec : ChangeSpec := { name := "fnExactTreeQuad", fn := fun _ => fun
  | [d] => { results := [.lit (.bool true)], args := [d] }
  | _ => none }
def fnExactTreeQuadRow : OpenClaim := { program := "ytlpbalebodlipaa", sum := "78e6fe60df9a36724a1112dc9c03dd533e797d01c7f7f77c5d4b637d303fd110", func := "loop.example/surfacemaps/laws.FnExactTreeQuad", spec := "fnExactTreeQuad", apart := false }
def FnExactTreeQuadSaid : Prop := fnExactTreeQuadRow.holds Try.pinned (OpenSpec.ofChange fnExactTreeQuadSpec)

/-- ITS FALSE NEIGHBOUR: 'it returns false'. Refute it at one input. -/
def fnExactTreeQuadWrong : ChangeSpec := { name := "fnExactTreeQuad", fn := fun _ => fun
  | [d] => { results := [.lit (.bool false)], args := [d] }
  | _ => none }
def FnExactTreeQuadWrongFalsely : Prop := fnExactTreeQuadRow.holds Try.pinned (OpenSpec.ofChange fnExactTreeQuadWrong)

/-- 'laws.FnTreeAll': WHATEVER THE INPUT: true; the input reads as it did. -/
def fnTreeAllSpec : ChangeSpec := { name := "fnTreeAll", fn := fun _ => fun
  | [d] => { results := [.lit (.bool true)], args := [d] }
  | _ => none }
def fnTreeAllRow : OpenClaim := { program := "ytlpbalebodlipaa", sum := "78e6fe60df9a36724a1112dc9c03dd533e797d01c7f7f77c5d4b637d303fd110", func := "loop.example/surfacemaps/laws.FnTreeAll", spec := "fnTreeAll", apart := false }
def FnTreeAllSaid : Prop := fnTreeAllRow.holds Try.pinned (OpenSpec.ofChange fnTreeAllSpec)

/-- ITS FALSE NEIGHBOUR: 'it returns false'. Refute it at one input. -/
def fnTreeAllWrong : ChangeSpec := { name := "fnTreeAll", fn := fun _ => fun
  | [d] => { results := [.lit (.bool false)], args := [d] }
  | _ => none }
def FnTreeAllWrongFalsely : Prop := fnTreeAllRow.holds Try.pinned (OpenSpec.ofChange fnTreeAllWrong)

/-- 'laws.FnTreeMap': WHATEVER THE INPUT: true; the input reads as it did. -/
def fnTreeMapSpec : ChangeSpec := { name := "fnTreeMap", fn := fun _ => fun
  | [d] => { results := [.lit (.bool true)], args := [d] }
  | _ => none }
def fnTreeMapRow : OpenClaim := { program := "ytlpbalebodlipaa", sum := "78e6fe60df9a36724a1112dc9c03dd533e797d01c7f7f77c5d4b637d303fd110", func := "loop.example/surfacemaps/laws.FnTreeMap", spec := "fnTreeMap", apart := false }
def FnTreeMapSaid : Prop := fnTreeMapRow.holds Try.pinned (OpenSpec.ofChange fnTreeMapSpec)

/-- ITS FALSE NEIGHBOUR: 'it returns false'. Refute it at one input. -/
def fnTreeMapWrong : ChangeSpec := { name := "fnTreeMap", fn := fun _ => fun
  | [d] => { results := [.lit (.bool false)], args := [d] }
  | _ => none }
def FnTreeMapWrongFalsely : Prop := fnTreeMapRow.holds Try.pinned (OpenSpec.ofChange fnTreeMapWrong)

/-- 'laws.FnLabelsFar': WHATEVER THE INPUT: true; the input reads as it did. -/
def fnLabelsFarSpec : ChangeSpec := { name := "fnLabelsFar", fn := fun _ => fun
  | [d] => { results := [.lit (.bool true)], args := [d] }
  | _ => none }
def fnLabelsFarRow : OpenClaim := { program := "ytlpbalebodlipaa", sum := "78e6fe60df9a36724a1112dc9c03dd533e797d01c7f7f77c5d4b637d303fd110", func := "loop.example/surfacemaps/laws.FnLabelsFar", spec := "fnLabelsFar", unfollowed := true, recurses := true, apart := false }
def FnLabelsFarSaid : Prop := fnLabelsFarRow.holds Try.pinned (OpenSpec.ofChange fnLabelsFarSpec)

/-- ITS FALSE NEIGHBOUR: 'it returns false'. Refute it at one input. -/
def fnLabelsFarWrong : ChangeSpec := { name := "fnLabelsFar", fn := fun _ => fun
  | [d] => { results := [.lit (.bool false)], args := [d] }
  | _ => none }
def FnLabelsFarWrongFalsely : Prop := fnLabelsFarRow.holds Try.pinned (OpenSpec.ofChange fnLabelsFarWrong)

/-- 'laws.FnTreeQuad': WHATEVER THE INPUT: true; the input reads as it did. -/
def fnTreeQuadSpec : ChangeSpec := { name := "fnTreeQuad", fn := fun _ => fun
  | [d] => { results := [.lit (.bool true)], args := [d] }
  | _ => none }
def fnTreeQuadRow : OpenClaim := { program := "ytlpbalebodlipaa", sum := "78e6fe60df9a36724a1112dc9c03dd533e797d01c7f7f77c5d4b637d303fd110", func := "loop.example/surfacemaps/laws.FnTreeQuad", spec := "fnTreeQuad", unfollowed := true, recurses := true, apart := false }
def FnTreeQuadSaid : Prop := fnTreeQuadRow.holds Try.pinned (OpenSpec.ofChange fnTreeQuadSpec)

/-- ITS FALSE NEIGHBOUR: 'it returns false'. Refute it at one input. -/
def fnTreeQuadWrong : ChangeSpec := { name := "fnTreeQuad", fn := fun _ => fun
  | [d] => { results := [.lit (.bool false)], args := [d] }
  | _ => none }
def FnTreeQuadWrongFalsely : Prop := fnTreeQuadRow.holds Try.pinned (OpenSpec.ofChange fnTreeQuadWrong)

/-- 'laws.FnExactQuadIs': WHATEVER THE INPUT: true; the input reads as it did. -/
def fnExactQuadIsSpec : ChangeSpec := { name := "fnExactQuadIs", fn := fun _ => fun
  | [d] => { results := [.lit (.bool true)], args := [d] }
  | _ => none }
def fnExactQuadIsRow : OpenClaim := { program := "ytlpbalebodlipaa", sum := "78e6fe60df9a36724a1112dc9c03dd533e797d01c7f7f77c5d4b637d303fd110", func := "loop.example/surfacemaps/laws.FnExactQuadIs", spec := "fnExactQuadIs", recurses := true, apart := false }
def FnExactQuadIsSaid : Prop := fnExactQuadIsRow.holds Try.pinned (OpenSpec.ofChange fnExactQuadIsSpec)

/-- ITS FALSE NEIGHBOUR: 'it returns false'. Refute it at one input. -/
def fnExactQuadIsWrong : ChangeSpec := { name := "fnExactQuadIs", fn := fun _ => fun
  | [d] => { results := [.lit (.bool false)], args := [d] }
  | _ => none }
def FnExactQuadIsWrongFalsely : Prop := fnExactQuadIsRow.holds Try.pinned (OpenSpec.ofChange fnExactQuadIsWrong)

/-- 'laws.FnQuad': WHATEVER THE INPUT: true; the input reads as it did. -/
def fnQuadSpec : ChangeSpec := { name := "fnQuad", fn := fun _ => fun
  | [d1, d2] => { results := [.lit (.bool true)], args := [d1, d2] }
  | _ => none }
def fnQuadRow : OpenClaim := { program := "ytlpbalebodlipaa", sum := "78e6fe60df9a36724a1112dc9c03dd533e797d01c7f7f77c5d4b637d303fd110", func := "loop.example/surfacemaps/laws.FnQuad", spec := "fnQuad", unfollowed := true, recurses := true, apart := false }
def FnQuadSaid : Prop := fnQuadRow.holds Try.pinned (OpenSpec.ofChange fnQuadSpec)

/-- ITS FALSE NEIGHBOUR: 'it returns false'. Refute it at one input. -/
def fnQuadWrong : ChangeSpec := { name := "fnQuad", fn := fun _ => fun
  | [d1, d2] => { results := [.lit (.bool false)], args := [d1, d2] }
  | _ => none }
def FnQuadWrongFalsely : Prop := fnQuadRow.holds Try.pinned (OpenSpec.ofChange fnQuadWrong)

/-- 'laws.FnTutteMap': WHATEVER THE INPUT: true; the input reads as it did. -/
def fnTutteMapSpec : ChangeSpec := { name := "fnTutteMap", fn := fun _ => fun
  | [d] => { results := [.lit (.bool true)], args := [d] }
  | _ => none }
def fnTutteMapRow : OpenClaim := { program := "ytlpbalebodlipaa", sum := "78e6fe60df9a36724a1112dc9c03dd533e797d01c7f7f77c5d4b637d303fd110", func := "loop.example/surfacemaps/laws.FnTutteMap", spec := "fnTutteMap", unfollowed := true, recurses := true, apart := false }
def FnTutteMapSaid : Prop := fnTutteMapRow.holds Try.pinned (OpenSpec.ofChange fnTutteMapSpec)

/-- ITS FALSE NEIGHBOUR: 'it returns false'. Refute it at one input. -/
def fnTutteMapWrong : ChangeSpec := { name := "fnTutteMap", fn := fun _ => fun
  | [d] => { results := [.lit (.bool false)], args := [d] }
  | _ => none }
def FnTutteMapWrongFalsely : Prop := fnTutteMapRow.holds Try.pinned (OpenSpec.ofChange fnTutteMapWrong)

/-- 'laws.FnQuadTree': WHATEVER THE INPUT: true; the input reads as it did. -/
def fnQuadTreeSpec : ChangeSpec := { name := "fnQuadTree", fn := fun _ => fun
  | [d] => { results := [.lit (.bool true)], args := [d] }
  | _ => none }
def fnQuadTreeRow : OpenClaim := { program := "ytlpbalebodlipaa", sum := "78e6fe60df9a36724a1112dc9c03dd533e797d01c7f7f77c5d4b637d303fd110", func := "loop.example/surfacemaps/laws.FnQuadTree", spec := "fnQuadTree", unfollowed := true, recurses := true, apart := false }
def FnQuadTreeSaid : Prop := fnQuadTreeRow.holds Try.pinned (OpenSpec.ofChange fnQuadTreeSpec)

/-- ITS FALSE NEIGHBOUR: 'it returns false'. Refute it at one input. -/
def fnQuadTreeWrong : ChangeSpec := { name := "fnQuadTree", fn := fun _ => fun
  | [d] => { results := [.lit (.bool false)], args := [d] }
  | _ => none }
def FnQuadTreeWrongFalsely : Prop := fnQuadTreeRow.holds Try.pinned (OpenSpec.ofChange fnQuadTreeWrong)

/-- 'laws.FnExactTutteMap': WHATEVER THE INPUT: true; the input reads as it did. -/
def fnExactTutteMapSpec : ChangeSpec := { name := "fnExactTutteMap", fn := fun _ => fun
  | [d1, d2] => { results := [.lit (.bool true)], args := [d1, d2] }
  | _ => none }
def fnExactTutteMapRow : OpenClaim := { program := "ytlpbalebodlipaa", sum := "78e6fe60df9a36724a1112dc9c03dd533e797d01c7f7f77c5d4b637d303fd110", func := "loop.example/surfacemaps/laws.FnExactTutteMap", spec := "fnExactTutteMap", unfollowed := true, recurses := true, apart := false }
def FnExactTutteMapSaid : Prop := fnExactTutteMapRow.holds Try.pinned (OpenSpec.ofChange fnExactTutteMapSpec)

/-- ITS FALSE NEIGHBOUR: 'it returns false'. Refute it at one input. -/
def fnExactTutteMapWrong : ChangeSpec := { name := "fnExactTutteMap", fn := fun _ => fun
  | [d1, d2] => { results := [.lit (.bool false)], args := [d1, d2] }
  | _ => none }
def FnExactTutteMapWrongFalsely : Prop := fnExactTutteMapRow.holds Try.pinned (OpenSpec.ofChange fnExactTutteMapWrong)

/-- 'laws.FnExactQuadTree': WHATEVER THE INPUT: true; the input reads as it did. -/
def fnExactQuadTreeSpec : ChangeSpec := { name := "fnExactQuadTree", fn := fun _ => fun
  | [d1, d2, d3] => { results := [.lit (.bool true)], args := [d1, d2, d3] }
  | _ => none }
def fnExactQuadTreeRow : OpenClaim := { program := "ytlpbalebodlipaa", sum := "78e6fe60df9a36724a1112dc9c03dd533e797d01c7f7f77c5d4b637d303fd110", func := "loop.example/surfacemaps/laws.FnExactQuadTree", spec := "fnExactQuadTree", unfollowed := true, recurses := true, apart := false }
def FnExactQuadTreeSaid : Prop := fnExactQuadTreeRow.holds Try.pinned (OpenSpec.ofChange fnExactQuadTreeSpec)

/-- ITS FALSE NEIGHBOUR: 'it returns false'. Refute it at one input. -/
def fnExactQuadTreeWrong : ChangeSpec := { name := "fnExactQuadTree", fn := fun _ => fun
  | [d1, d2, d3] => { results := [.lit (.bool false)], args := [d1, d2, d3] }
  | _ => none }
def FnExactQuadTreeWrongFalsely : Prop := fnExactQuadTreeRow.holds Try.pinned (OpenSpec.ofChange fnExactQuadTreeWrong)

/- THE SECOND FORM. 'bulk': how many values and letters a reading holds, each counted each time it is reached (what is shared counts as often as it is met; a slice's spare places count too). A statement '..UptoSaid' is the law's where the arguments, and the package variables that the reading takes, are together of bulk at most 1048576: NARROWER than '..Said'. Prove '..Said' where nothing that the law and all that it calls make is longer than what came in: it says more and counts as full. Else prove '..UptoSaid'. A law counts once. -/
mutual
def uptoBulk {H : Type} : DataW H → Nat
  | .lit (.string bytes) => bytes.length + 1
  | .lit _ => 1
  | .nil => 1
  | .ptr d => uptoBulk d + 1
  | .slice elems spare => uptoBulkAll elems + uptoBulkAll spare + 1
  | .agg parts => uptoBulkAll parts + 1
  | .iface _ d => uptoBulk d + 1
  | .map entries => uptoBulkEntries entries + 1
  | .held _ => 1
def uptoBulkAll {H : Type} : List (DataW H) → Nat
  | [] => 0
  | d :: r => uptoBulk d + uptoBulkAll r
def uptoBulkEntries {H : Type} : List (Lit × DataW H) → Nat
  | [] => 0
  | x :: r => uptoBulkEntry x + uptoBulkEntries r
def uptoBulkEntry {H : Type} : Lit × DataW H → Nat
  | (.string bytes, d) => bytes.length + uptoBulk d + 1
  | (_, d) => uptoBulk d + 1
 end
def uptoSmall : (H : Type) → List (DataW H) → Bool := fun _ ds => decide (uptoBulkAll ds ≤ 1048576)
def OpenSpec.upto (s : _root_.Go.ChangeSpec) : _root_.Go.OpenSpec := { _root_.Go.OpenSpec.ofChange s with cond := some uptoSmall }

/-- 'laws.FnTree', WHERE WHAT IT READS IS OF BULK AT MOST 1048576: true; the input reads as it did. -/
def fnTreeUptoRow : OpenClaim := { program := "ytlpbalebodlipaa", sum := "78e6fe60df9a36724a1112dc9c03dd533e797d01c7f7f77c5d4b637d303fd110", func := "loop.example/surfacemaps/laws.FnTree", spec := "fnTree", apart := false, narrowed := true }
def FnTreeUptoSaid : Prop := fnTreeUptoRow.holds Try.pinned (OpenSpec.upto fnTreeSpec)

/-- 'laws.FnExactTreeQuad', WHERE WHAT IT READS IS OF BULK AT MOST 1048576: true; the input reads as it did. -/
def fnExactTreeQuadUptoRow : OpenClaim := { program := "ytlpbalebodlipaa", sum := "78e6fe60df9a36724a1112dc9c03dd533e797d01c7f7f77c5d4b637d303fd110", func := "loop.example/surfacemaps/laws.FnExactTreeQuad", spec := "fnExactTreeQuad", apart := false, narrowed := true }
def FnExactTreeQuadUptoSaid : Prop := fnExactTreeQuadUptoRow.holds Try.pinned (OpenSpec.upto fnExactTreeQuadSpec)

/-- 'laws.FnTreeAll', WHERE WHAT IT READS IS OF BULK AT MOST 1048576: true; the input reads as it did. -/
def fnTreeAllUptoRow : OpenClaim := { program := "ytlpbalebodlipaa", sum := "78e6fe60df9a36724a1112dc9c03dd533e797d01c7f7f77c5d4b637d303fd110", func := "loop.example/surfacemaps/laws.FnTreeAll", spec := "fnTreeAll", apart := false, narrowed := true }
def FnTreeAllUptoSaid : Prop := fnTreeAllUptoRow.holds Try.pinned (OpenSpec.upto fnTreeAllSpec)

/-- 'laws.FnTreeMap', WHERE WHAT IT READS IS OF BULK AT MOST 1048576: true; the input reads as it did. -/
def fnTreeMapUptoRow : OpenClaim := { program := "ytlpbalebodlipaa", sum := "78e6fe60df9a36724a1112dc9c03dd533e797d01c7f7f77c5d4b637d303fd110", func := "loop.example/surfacemaps/laws.FnTreeMap", spec := "fnTreeMap", apart := false, narrowed := true }
def FnTreeMapUptoSaid : Prop := fnTreeMapUptoRow.holds Try.pinned (OpenSpec.upto fnTreeMapSpec)

/-- 'laws.FnLabelsFar', WHERE WHAT IT READS IS OF BULK AT MOST 1048576: true; the input reads as it did. -/
def fnLabelsFarUptoRow : OpenClaim := { program := "ytlpbalebodlipaa", sum := "78e6fe60df9a36724a1112dc9c03dd533e797d01c7f7f77c5d4b637d303fd110", func := "loop.example/surfacemaps/laws.FnLabelsFar", spec := "fnLabelsFar", unfollowed := true, recurses := true, apart := false, narrowed := true }
def FnLabelsFarUptoSaid : Prop := fnLabelsFarUptoRow.holds Try.pinned (OpenSpec.upto fnLabelsFarSpec)

/-- 'laws.FnTreeQuad', WHERE WHAT IT READS IS OF BULK AT MOST 1048576: true; the input reads as it did. -/
def fnTreeQuadUptoRow : OpenClaim := { program := "ytlpbalebodlipaa", sum := "78e6fe60df9a36724a1112dc9c03dd533e797d01c7f7f77c5d4b637d303fd110", func := "loop.example/surfacemaps/laws.FnTreeQuad", spec := "fnTreeQuad", unfollowed := true, recurses := true, apart := false, narrowed := true }
def FnTreeQuadUptoSaid : Prop := fnTreeQuadUptoRow.holds Try.pinned (OpenSpec.upto fnTreeQuadSpec)

/-- 'laws.FnExactQuadIs', WHERE WHAT IT READS IS OF BULK AT MOST 1048576: true; the input reads as it did. -/
def fnExactQuadIsUptoRow : OpenClaim := { program := "ytlpbalebodlipaa", sum := "78e6fe60df9a36724a1112dc9c03dd533e797d01c7f7f77c5d4b637d303fd110", func := "loop.example/surfacemaps/laws.FnExactQuadIs", spec := "fnExactQuadIs", recurses := true, apart := false, narrowed := true }
def FnExactQuadIsUptoSaid : Prop := fnExactQuadIsUptoRow.holds Try.pinned (OpenSpec.upto fnExactQuadIsSpec)

/-- 'laws.FnQuad', WHERE WHAT IT READS IS OF BULK AT MOST 1048576: true; the input reads as it did. -/
def fnQuadUptoRow : OpenClaim := { program := "ytlpbalebodlipaa", sum := "78e6fe60df9a36724a1112dc9c03dd533e797d01c7f7f77c5d4b637d303fd110", func := "loop.example/surfacemaps/laws.FnQuad", spec := "fnQuad", unfollowed := true, recurses := true, apart := false, narrowed := true }
def FnQuadUptoSaid : Prop := fnQuadUptoRow.holds Try.pinned (OpenSpec.upto fnQuadSpec)

/-- 'laws.FnTutteMap', WHERE WHAT IT READS IS OF BULK AT MOST 1048576: true; the input reads as it did. -/
def fnTutteMapUptoRow : OpenClaim := { program := "ytlpbalebodlipaa", sum := "78e6fe60df9a36724a1112dc9c03dd533e797d01c7f7f77c5d4b637d303fd110", func := "loop.example/surfacemaps/laws.FnTutteMap", spec := "fnTutteMap", unfollowed := true, recurses := true, apart := false, narrowed := true }
def FnTutteMapUptoSaid : Prop := fnTutteMapUptoRow.holds Try.pinned (OpenSpec.upto fnTutteMapSpec)

/-- 'laws.FnQuadTree', WHERE WHAT IT READS IS OF BULK AT MOST 1048576: true; the input reads as it did. -/
def fnQuadTreeUptoRow : OpenClaim := { program := "ytlpbalebodlipaa", sum := "78e6fe60df9a36724a1112dc9c03dd533e797d01c7f7f77c5d4b637d303fd110", func := "loop.example/surfacemaps/laws.FnQuadTree", spec := "fnQuadTree", unfollowed := true, recurses := true, apart := false, narrowed := true }
def FnQuadTreeUptoSaid : Prop := fnQuadTreeUptoRow.holds Try.pinned (OpenSpec.upto fnQuadTreeSpec)

/-- 'laws.FnExactTutteMap', WHERE WHAT IT READS IS OF BULK AT MOST 1048576: true; the input reads as it did. -/
def fnExactTutteMapUptoRow : OpenClaim := { program := "ytlpbalebodlipaa", sum := "78e6fe60df9a36724a1112dc9c03dd533e797d01c7f7f77c5d4b637d303fd110", func := "loop.example/surfacemaps/laws.FnExactTutteMap", spec := "fnExactTutteMap", unfollowed := true, recurses := true, apart := false, narrowed := true }
def FnExactTutteMapUptoSaid : Prop := fnExactTutteMapUptoRow.holds Try.pinned (OpenSpec.upto fnExactTutteMapSpec)

/-- 'laws.FnExactQuadTree', WHERE WHAT IT READS IS OF BULK AT MOST 1048576: true; the input reads as it did. -/
def fnExactQuadTreeUptoRow : OpenClaim := { program := "ytlpbalebodlipaa", sum := "78e6fe60df9a36724a1112dc9c03dd533e797d01c7f7f77c5d4b637d303fd110", func := "loop.example/surfacemaps/laws.FnExactQuadTree", spec := "fnExactQuadTree", unfollowed := true, recurses := true, apart := false, narrowed := true }
def FnExactQuadTreeUptoSaid : Prop := fnExactQuadTreeUptoRow.holds Try.pinned (OpenSpec.upto fnExactQuadTreeSpec)

end Rows
end Go.Proofs.Ytlpbalebodlipaa
