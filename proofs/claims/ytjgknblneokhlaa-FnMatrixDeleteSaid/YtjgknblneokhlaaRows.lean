/-
  No cell of these rows narrows 'for every input' (looked for: loops, veiled, ifaces, maps, wideKeys, modest, calm, conditions, laid).
  DERIVED. THE GIVEN ROWS OF THIS SEAT. 12 by the template 'for every input the law returns true; each argument reads behind the call as it read before'; 0 by the template 'total and deterministic' (their statements: YtjgknblneokhlaaTotals.lean).
  GIVEN WITH THE SEED: the statements are not yours to turn. If you find one false, say at which input.
  Laid BY PROGRAM, IN A SANDBOX (cutbox-rows.mjs): the forced cells as the released guide's own fill.sh prints them over the translation 869732df48ba8eab… (all of the seat's roots in one cut). By AI agents, Wed Nov 11 2026. No macro, syntax, notation, axiom, sorry.
-/
import Derived.Test.YtjgknblneokhlaaChecked
import GoSem.Claim
import GoSem.ClaimJoined
import GoSem.ClaimMapViews
import Derived.JoinedTies
import Derived.KernelRfl
namespace Go.Proofs.Ytjgknblneokhlaa
/- THE CELL 'sum', in the pinned program and in every row, IS THE sha256 OF THE DUMP (.gsa) THAT YtjgknblneokhlaaProg.lean LOADS. Nothing in Lean hashes anything: it is a label: what it is worth is what the hold of that sum in a sandbox is worth. -/
noncomputable def Try.pinned : Pinned := { name := "ytjgknblneokhlaa", sum := "869732df48ba8eab6c2725e4e1837c7fe9fc3ba6999c7b8217da91e95910be40", checked := Try.checked }
namespace Rows
def none {H : Type} : Left H := { results := [], args := [] }

/-- 'laws.FnChoice': WHATEVER THE INPUT: true; the input reads as it did. -/
def fnChoiceSpec : ChangeSpec := { name := "fnChoice", fn := fun _ => fun
  | [d] => { results := [.lit (.bool true)], args := [d] }
  | _ => none }
def fnChoiceRow : OpenClaim := { program := "ytjgknblneokhlaa", sum := "869732df48ba8eab6c2725e4e1837c7fe9fc3ba6999c7b8217da91e95910be40", func := "loop.example/surfacemaps/laws.FnChoice", spec := "fnChoice", unfollowed := true, recurses := true, apart := false }
def FnChoiceSaid : Prop := fnChoiceRow.holds Try.pinned (OpenSpec.ofChange fnChoiceSpec)

/-- ITS FALSE NEIGHBOUR: 'it returns false'. Refute it at one input. -/
def fnChoiceWrong : ChangeSpec := { name := "fnChoice", fn := fun _ => fun
  | [d] => { results := [.lit (.bool false)], args := [d] }
  | _ => none }
def FnChoiceWrongFalsely : Prop := fnChoiceRow.holds Try.pinned (OpenSpec.ofChange fnChoiceWrong)

/-- 'laws.FnChoiceRest': WHATEVER THE INPUT: true; the input reads as it did. -/
def fnChoiceRestSpec : ChangeSpec := { name := "fnChoiceRest", fn := fun _ => fun
  | [d] => { results := [.lit (.bool true)], args := [d] }
  | _ => none }
def fnChoiceRestRow : OpenClaim := { program := "ytjgknblneokhlaa", sum := "869732df48ba8eab6c2725e4e1837c7fe9fc3ba6999c7b8217da91e95910be40", func := "loop.example/surfacemaps/laws.FnChoiceRest", spec := "fnChoiceRest", unfollowed := true, recurses := true, apart := false }
def FnChoiceRestSaid : Prop := fnChoiceRestRow.holds Try.pinned (OpenSpec.ofChange fnChoiceRestSpec)

/-- ITS FALSE NEIGHBOUR: 'it returns false'. Refute it at one input. -/
def fnChoiceRestWrong : ChangeSpec := { name := "fnChoiceRest", fn := fun _ => fun
  | [d] => { results := [.lit (.bool false)], args := [d] }
  | _ => none }
def FnChoiceRestWrongFalsely : Prop := fnChoiceRestRow.holds Try.pinned (OpenSpec.ofChange fnChoiceRestWrong)

/-- 'laws.FnChoiceTree': WHATEVER THE INPUT: true; the input reads as it did. -/
def fnChoiceTreeSpec : ChangeSpec := { name := "fnChoiceTree", fn := fun _ => fun
  | [d] => { results := [.lit (.bool true)], args := [d] }
  | _ => none }
def fnChoiceTreeRow : OpenClaim := { program := "ytjgknblneokhlaa", sum := "869732df48ba8eab6c2725e4e1837c7fe9fc3ba6999c7b8217da91e95910be40", func := "loop.example/surfacemaps/laws.FnChoiceTree", spec := "fnChoiceTree", unfollowed := true, recurses := true, apart := false }
def FnChoiceTreeSaid : Prop := fnChoiceTreeRow.holds Try.pinned (OpenSpec.ofChange fnChoiceTreeSpec)

/-- ITS FALSE NEIGHBOUR: 'it returns false'. Refute it at one input. -/
def fnChoiceTreeWrong : ChangeSpec := { name := "fnChoiceTree", fn := fun _ => fun
  | [d] => { results := [.lit (.bool false)], args := [d] }
  | _ => none }
def FnChoiceTreeWrongFalsely : Prop := fnChoiceTreeRow.holds Try.pinned (OpenSpec.ofChange fnChoiceTreeWrong)

/-- 'laws.FnChoiceCounts': WHATEVER THE INPUT: true; the input reads as it did. -/
def fnChoiceCountsSpec : ChangeSpec := { name := "fnChoiceCounts", fn := fun _ => fun
  | [d1, d2] => { results := [.lit (.bool true)], args := [d1, d2] }
  | _ => none }
def fnChoiceCountsRow : OpenClaim := { program := "ytjgknblneokhlaa", sum := "869732df48ba8eab6c2725e4e1837c7fe9fc3ba6999c7b8217da91e95910be40", func := "loop.example/surfacemaps/laws.FnChoiceCounts", spec := "fnChoiceCounts", unfollowed := true, recurses := true, apart := false }
def FnChoiceCountsSaid : Prop := fnChoiceCountsRow.holds Try.pinned (OpenSpec.ofChange fnChoiceCountsSpec)

/-- ITS FALSE NEIGHBOUR: 'it returns false'. Refute it at one input. -/
def fnChoiceCountsWrong : ChangeSpec := { name := "fnChoiceCounts", fn := fun _ => fun
  | [d1, d2] => { results := [.lit (.bool false)], args := [d1, d2] }
  | _ => none }
def FnChoiceCountsWrongFalsely : Prop := fnChoiceCountsRow.holds Try.pinned (OpenSpec.ofChange fnChoiceCountsWrong)

/-- 'laws.FnChoiceQuasi': WHATEVER THE INPUT: true; the input reads as it did. -/
def fnChoiceQuasiSpec : ChangeSpec := { name := "fnChoiceQuasi", fn := fun _ => fun
  | [d] => { results := [.lit (.bool true)], args := [d] }
  | _ => none }
def fnChoiceQuasiRow : OpenClaim := { program := "ytjgknblneokhlaa", sum := "869732df48ba8eab6c2725e4e1837c7fe9fc3ba6999c7b8217da91e95910be40", func := "loop.example/surfacemaps/laws.FnChoiceQuasi", spec := "fnChoiceQuasi", unfollowed := true, recurses := true, apart := false }
def FnChoiceQuasiSaid : Prop := fnChoiceQuasiRow.holds Try.pinned (OpenSpec.ofChange fnChoiceQuasiSpec)

/-- ITS FALSE NEIGHBOUR: 'it returns false'. Refute it at one input. -/
def fnChoiceQuasiWrong : ChangeSpec := { name := "fnChoiceQuasi", fn := fun _ => fun
  | [d] => { results := [.lit (.bool false)], args := [d] }
  | _ => none }
def FnChoiceQuasiWrongFalsely : Prop := fnChoiceQuasiRow.holds Try.pinned (OpenSpec.ofChange fnChoiceQuasiWrong)

/-- 'laws.FnValueDual': WHATEVER THE INPUT: true; the input reads as it did. -/
def fnValueDualSpec : ChangeSpec := { name := "fnValueDual", fn := fun _ => fun
  | [d] => { results := [.lit (.bool true)], args := [d] }
  | _ => none }
def fnValueDualRow : OpenClaim := { program := "ytjgknblneokhlaa", sum := "869732df48ba8eab6c2725e4e1837c7fe9fc3ba6999c7b8217da91e95910be40", func := "loop.example/surfacemaps/laws.FnValueDual", spec := "fnValueDual", unfollowed := true, recurses := true, apart := false }
def FnValueDualSaid : Prop := fnValueDualRow.holds Try.pinned (OpenSpec.ofChange fnValueDualSpec)

/-- ITS FALSE NEIGHBOUR: 'it returns false'. Refute it at one input. -/
def fnValueDualWrong : ChangeSpec := { name := "fnValueDual", fn := fun _ => fun
  | [d] => { results := [.lit (.bool false)], args := [d] }
  | _ => none }
def FnValueDualWrongFalsely : Prop := fnValueDualRow.holds Try.pinned (OpenSpec.ofChange fnValueDualWrong)

/-- 'laws.FnMatrixDelete': WHATEVER THE INPUT: true; the input reads as it did. -/
def fnMatrixDeleteSpec : ChangeSpec := { name := "fnMatrixDelete", fn := fun _ => fun
  | [d1, d2] => { results := [.lit (.bool true)], args := [d1, d2] }
  | _ => none }
def fnMatrixDeleteRow : OpenClaim := { program := "ytjgknblneokhlaa", sum := "869732df48ba8eab6c2725e4e1837c7fe9fc3ba6999c7b8217da91e95910be40", func := "loop.example/surfacemaps/laws.FnMatrixDelete", spec := "fnMatrixDelete", unfollowed := true, recurses := true, apart := false }
def FnMatrixDeleteSaid : Prop := fnMatrixDeleteRow.holds Try.pinned (OpenSpec.ofChange fnMatrixDeleteSpec)

/-- ITS FALSE NEIGHBOUR: 'it returns false'. Refute it at one input. -/
def fnMatrixDeleteWrong : ChangeSpec := { name := "fnMatrixDelete", fn := fun _ => fun
  | [d1, d2] => { results := [.lit (.bool false)], args := [d1, d2] }
  | _ => none }
def FnMatrixDeleteWrongFalsely : Prop := fnMatrixDeleteRow.holds Try.pinned (OpenSpec.ofChange fnMatrixDeleteWrong)

/-- 'laws.FnKind': WHATEVER THE INPUT: true; the input reads as it did. -/
def fnKindSpec : ChangeSpec := { name := "fnKind", fn := fun _ => fun
  | [d] => { results := [.lit (.bool true)], args := [d] }
  | _ => none }
def fnKindRow : OpenClaim := { program := "ytjgknblneokhlaa", sum := "869732df48ba8eab6c2725e4e1837c7fe9fc3ba6999c7b8217da91e95910be40", func := "loop.example/surfacemaps/laws.FnKind", spec := "fnKind", unfollowed := true, recurses := true, apart := false }
def FnKindSaid : Prop := fnKindRow.holds Try.pinned (OpenSpec.ofChange fnKindSpec)

/-- ITS FALSE NEIGHBOUR: 'it returns false'. Refute it at one input. -/
def fnKindWrong : ChangeSpec := { name := "fnKind", fn := fun _ => fun
  | [d] => { results := [.lit (.bool false)], args := [d] }
  | _ => none }
def FnKindWrongFalsely : Prop := fnKindRow.holds Try.pinned (OpenSpec.ofChange fnKindWrong)

/-- 'laws.FnQuasis': WHATEVER THE INPUT: true; the input reads as it did. -/
def fnQuasisSpec : ChangeSpec := { name := "fnQuasis", fn := fun _ => fun
  | [d] => { results := [.lit (.bool true)], args := [d] }
  | _ => none }
def fnQuasisRow : OpenClaim := { program := "ytjgknblneokhlaa", sum := "869732df48ba8eab6c2725e4e1837c7fe9fc3ba6999c7b8217da91e95910be40", func := "loop.example/surfacemaps/laws.FnQuasis", spec := "fnQuasis", unfollowed := true, recurses := true, apart := false }
def FnQuasisSaid : Prop := fnQuasisRow.holds Try.pinned (OpenSpec.ofChange fnQuasisSpec)

/-- ITS FALSE NEIGHBOUR: 'it returns false'. Refute it at one input. -/
def fnQuasisWrong : ChangeSpec := { name := "fnQuasis", fn := fun _ => fun
  | [d] => { results := [.lit (.bool false)], args := [d] }
  | _ => none }
def FnQuasisWrongFalsely : Prop := fnQuasisRow.holds Try.pinned (OpenSpec.ofChange fnQuasisWrong)

/-- 'laws.FnValue': WHATEVER THE INPUT: true; the input reads as it did. -/
def fnValueSpec : ChangeSpec := { name := "fnValue", fn := fun _ => fun
  | [d1, d2] => { results := [.lit (.bool true)], args := [d1, d2] }
  | _ => none }
def fnValueRow : OpenClaim := { program := "ytjgknblneokhlaa", sum := "869732df48ba8eab6c2725e4e1837c7fe9fc3ba6999c7b8217da91e95910be40", func := "loop.example/surfacemaps/laws.FnValue", spec := "fnValue", unfollowed := true, recurses := true, apart := false }
def FnValueSaid : Prop := fnValueRow.holds Try.pinned (OpenSpec.ofChange fnValueSpec)

/-- ITS FALSE NEIGHBOUR: 'it returns false'. Refute it at one input. -/
def fnValueWrong : ChangeSpec := { name := "fnValue", fn := fun _ => fun
  | [d1, d2] => { results := [.lit (.bool false)], args := [d1, d2] }
  | _ => none }
def FnValueWrongFalsely : Prop := fnValueRow.holds Try.pinned (OpenSpec.ofChange fnValueWrong)

/-- 'laws.FnTreesMatrix': WHATEVER THE INPUT: true; the input reads as it did. -/
def fnTreesMatrixSpec : ChangeSpec := { name := "fnTreesMatrix", fn := fun _ => fun
  | [d] => { results := [.lit (.bool true)], args := [d] }
  | _ => none }
def fnTreesMatrixRow : OpenClaim := { program := "ytjgknblneokhlaa", sum := "869732df48ba8eab6c2725e4e1837c7fe9fc3ba6999c7b8217da91e95910be40", func := "loop.example/surfacemaps/laws.FnTreesMatrix", spec := "fnTreesMatrix", unfollowed := true, recurses := true, apart := false }
def FnTreesMatrixSaid : Prop := fnTreesMatrixRow.holds Try.pinned (OpenSpec.ofChange fnTreesMatrixSpec)

/-- ITS FALSE NEIGHBOUR: 'it returns false'. Refute it at one input. -/
def fnTreesMatrixWrong : ChangeSpec := { name := "fnTreesMatrix", fn := fun _ => fun
  | [d] => { results := [.lit (.bool false)], args := [d] }
  | _ => none }
def FnTreesMatrixWrongFalsely : Prop := fnTreesMatrixRow.holds Try.pinned (OpenSpec.ofChange fnTreesMatrixWrong)

/-- 'laws.FnDelete': WHATEVER THE INPUT: true; the input reads as it did. -/
def fnDeleteSpec : ChangeSpec := { name := "fnDelete", fn := fun _ => fun
  | [d] => { results := [.lit (.bool true)], args := [d] }
  | _ => none }
def fnDeleteRow : OpenClaim := { program := "ytjgknblneokhlaa", sum := "869732df48ba8eab6c2725e4e1837c7fe9fc3ba6999c7b8217da91e95910be40", func := "loop.example/surfacemaps/laws.FnDelete", spec := "fnDelete", unfollowed := true, recurses := true, apart := false }
def FnDeleteSaid : Prop := fnDeleteRow.holds Try.pinned (OpenSpec.ofChange fnDeleteSpec)

/-- ITS FALSE NEIGHBOUR: 'it returns false'. Refute it at one input. -/
def fnDeleteWrong : ChangeSpec := { name := "fnDelete", fn := fun _ => fun
  | [d] => { results := [.lit (.bool false)], args := [d] }
  | _ => none }
def FnDeleteWrongFalsely : Prop := fnDeleteRow.holds Try.pinned (OpenSpec.ofChange fnDeleteWrong)

/- THE SECOND FORM. 'bulk': how many values and letters a reading holds, each counted each time it is reached (what is shared counts as often as it is met; a slice's spare places count too). A statement '..UptoSaid' is the law's where the arguments, and the package variables that the reading takes, are together of bulk at most 1048576: NARROWER than '..Said'. Prove '..Said' where nothing that the law and all that it calls make is longer than what came in: it says more and counts as full. Else prove '..UptoSaid'. A law counts once. -/
mutual
def uptoBulk {H : Type} : DataW H → Nat
  | .lit (.string bytes) => bytes.length + 1
  | .lit _ => 1
  | .nil => 1
  | .ptr d => uptoBulk d + 1
  | .slice elems spare => uptoBulkAll elems + uptoBulkAll spare + 1
  | .agg parts => uptoBulkAll parts + 1
  | .iface _ d => uptoBulk d + 1
  | .map entries => uptoBulkEntries entries + 1
  | .held _ => 1
def uptoBulkAll {H : Type} : List (DataW H) → Nat
  | [] => 0
  | d :: r => uptoBulk d + uptoBulkAll r
def uptoBulkEntries {H : Type} : List (Lit × DataW H) → Nat
  | [] => 0
  | x :: r => uptoBulkEntry x + uptoBulkEntries r
def uptoBulkEntry {H : Type} : Lit × DataW H → Nat
  | (.string bytes, d) => bytes.length + uptoBulk d + 1
  | (_, d) => uptoBulk d + 1
 end
def uptoSmall : (H : Type) → List (DataW H) → Bool := fun _ ds => decide (uptoBulkAll ds ≤ 1048576)
def OpenSpec.upto (s : _root_.Go.ChangeSpec) : _root_.Go.OpenSpec := { _root_.Go.OpenSpec.ofChange s with cond := some uptoSmall }

/-- 'laws.FnChoice', WHERE WHAT IT READS IS OF BULK AT MOST 1048576: true; the input reads as it did. -/
def fnChoiceUptoRow : OpenClaim := { program := "ytjgknblneokhlaa", sum := "869732df48ba8eab6c2725e4e1837c7fe9fc3ba6999c7b8217da91e95910be40", func := "loop.example/surfacemaps/laws.FnChoice", spec := "fnChoice", unfollowed := true, recurses := true, apart := false, narrowed := true }
def FnChoiceUptoSaid : Prop := fnChoiceUptoRow.holds Try.pinned (OpenSpec.upto fnChoiceSpec)

/-- 'laws.FnChoiceRest', WHERE WHAT IT READS IS OF BULK AT MOST 1048576: true; the input reads as it did. -/
def fnChoiceRestUptoRow : OpenClaim := { program := "ytjgknblneokhlaa", sum := "869732df48ba8eab6c2725e4e1837c7fe9fc3ba6999c7b8217da91e95910be40", func := "loop.example/surfacemaps/laws.FnChoiceRest", spec := "fnChoiceRest", unfollowed := true, recurses := true, apart := false, narrowed := true }
def FnChoiceRestUptoSaid : Prop := fnChoiceRestUptoRow.holds Try.pinned (OpenSpec.upto fnChoiceRestSpec)

/-- 'laws.FnChoiceTree', WHERE WHAT IT READS IS OF BULK AT MOST 1048576: true; the input reads as it did. -/
def fnChoiceTreeUptoRow : OpenClaim := { program := "ytjgknblneokhlaa", sum := "869732df48ba8eab6c2725e4e1837c7fe9fc3ba6999c7b8217da91e95910be40", func := "loop.example/surfacemaps/laws.FnChoiceTree", spec := "fnChoiceTree", unfollowed := true, recurses := true, apart := false, narrowed := true }
def FnChoiceTreeUptoSaid : Prop := fnChoiceTreeUptoRow.holds Try.pinned (OpenSpec.upto fnChoiceTreeSpec)

/-- 'laws.FnChoiceCounts', WHERE WHAT IT READS IS OF BULK AT MOST 1048576: true; the input reads as it did. -/
def fnChoiceCountsUptoRow : OpenClaim := { program := "ytjgknblneokhlaa", sum := "869732df48ba8eab6c2725e4e1837c7fe9fc3ba6999c7b8217da91e95910be40", func := "loop.example/surfacemaps/laws.FnChoiceCounts", spec := "fnChoiceCounts", unfollowed := true, recurses := true, apart := false, narrowed := true }
def FnChoiceCountsUptoSaid : Prop := fnChoiceCountsUptoRow.holds Try.pinned (OpenSpec.upto fnChoiceCountsSpec)

/-- 'laws.FnChoiceQuasi', WHERE WHAT IT READS IS OF BULK AT MOST 1048576: true; the input reads as it did. -/
def fnChoiceQuasiUptoRow : OpenClaim := { program := "ytjgknblneokhlaa", sum := "869732df48ba8eab6c2725e4e1837c7fe9fc3ba6999c7b8217da91e95910be40", func := "loop.example/surfacemaps/laws.FnChoiceQuasi", spec := "fnChoiceQuasi", unfollowed := true, recurses := true, apart := false, narrowed := true }
def FnChoiceQuasiUptoSaid : Prop := fnChoiceQuasiUptoRow.holds Try.pinned (OpenSpec.upto fnChoiceQuasiSpec)

/-- 'laws.FnValueDual', WHERE WHAT IT READS IS OF BULK AT MOST 1048576: true; the input reads as it did. -/
def fnValueDualUptoRow : OpenClaim := { program := "ytjgknblneokhlaa", sum := "869732df48ba8eab6c2725e4e1837c7fe9fc3ba6999c7b8217da91e95910be40", func := "loop.example/surfacemaps/laws.FnValueDual", spec := "fnValueDual", unfollowed := true, recurses := true, apart := false, narrowed := true }
def FnValueDualUptoSaid : Prop := fnValueDualUptoRow.holds Try.pinned (OpenSpec.upto fnValueDualSpec)

/-- 'laws.FnMatrixDelete', WHERE WHAT IT READS IS OF BULK AT MOST 1048576: true; the input reads as it did. -/
def fnMatrixDeleteUptoRow : OpenClaim := { program := "ytjgknblneokhlaa", sum := "869732df48ba8eab6c2725e4e1837c7fe9fc3ba6999c7b8217da91e95910be40", func := "loop.example/surfacemaps/laws.FnMatrixDelete", spec := "fnMatrixDelete", unfollowed := true, recurses := true, apart := false, narrowed := true }
def FnMatrixDeleteUptoSaid : Prop := fnMatrixDeleteUptoRow.holds Try.pinned (OpenSpec.upto fnMatrixDeleteSpec)

/-- 'laws.FnKind', WHERE WHAT IT READS IS OF BULK AT MOST 1048576: true; the input reads as it did. -/
def fnKindUptoRow : OpenClaim := { program := "ytjgknblneokhlaa", sum := "869732df48ba8eab6c2725e4e1837c7fe9fc3ba6999c7b8217da91e95910be40", func := "loop.example/surfacemaps/laws.FnKind", spec := "fnKind", unfollowed := true, recurses := true, apart := false, narrowed := true }
def FnKindUptoSaid : Prop := fnKindUptoRow.holds Try.pinned (OpenSpec.upto fnKindSpec)

/-- 'laws.FnQuasis', WHERE WHAT IT READS IS OF BULK AT MOST 1048576: true; the input reads as it did. -/
def fnQuasisUptoRow : OpenClaim := { program := "ytjgknblneokhlaa", sum := "869732df48ba8eab6c2725e4e1837c7fe9fc3ba6999c7b8217da91e95910be40", func := "loop.example/surfacemaps/laws.FnQuasis", spec := "fnQuasis", unfollowed := true, recurses := true, apart := false, narrowed := true }
def FnQuasisUptoSaid : Prop := fnQuasisUptoRow.holds Try.pinned (OpenSpec.upto fnQuasisSpec)

/-- 'laws.FnValue', WHERE WHAT IT READS IS OF BULK AT MOST 1048576: true; the input reads as it did. -/
def fnValueUptoRow : OpenClaim := { program := "ytjgknblneokhlaa", sum := "869732df48ba8eab6c2725e4e1837c7fe9fc3ba6999c7b8217da91e95910be40", func := "loop.example/surfacemaps/laws.FnValue", spec := "fnValue", unfollowed := true, recurses := true, apart := false, narrowed := true }
def FnValueUptoSaid : Prop := fnValueUptoRow.holds Try.pinned (OpenSpec.upto fnValueSpec)

/-- 'laws.FnTreesMatrix', WHERE WHAT IT READS IS OF BULK AT MOST 1048576: true; the input reads as it did. -/
def fnTreesMatrixUptoRow : OpenClaim := { program := "ytjgknblneokhlaa", sum := "869732df48ba8eab6c2725e4e1837c7fe9fc3ba6999c7b8217da91e95910be40", func := "loop.example/surfacemaps/laws.FnTreesMatrix", spec := "fnTreesMatrix", unfollowed := true, recurses := true, apart := false, narrowed := true }
def FnTreesMatrixUptoSaid : Prop := fnTreesMatrixUptoRow.holds Try.pinned (OpenSpec.upto fnTreesMatrixSpec)

/-- 'laws.FnDelete', WHERE WHAT IT READS IS OF BULK AT MOST 1048576: true; the input reads as it did. -/
def fnDeleteUptoRow : OpenClaim := { program := "ytjgknblneokhlaa", sum := "869732df48ba8eab6c2725e4e1837c7fe9fc3ba6999c7b8217da91e95910be40", func := "loop.example/surfacemaps/laws.FnDelete", spec := "fnDelete", unfollowed := true, recurses := true, apart := false, narrowed := true }
def FnDeleteUptoSaid : Prop := fnDeleteUptoRow.holds Try.pinned (OpenSpec.upto fnDeleteSpec)

end Rows
end Go.Proofs.Ytjgknblneokhlaa
