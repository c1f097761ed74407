/- For every two codes: of the map and the three numbers that the statement draws, RibbonValue of the program answers what the reference answers; for an edge that is no loop, the value is the sum of the values without the edge and with it contracted; for a bridge, the value with the edge contracted, x + 1 times. There are no conditions. -/
import Derived.Test.YtjgknblneokhlaaKVLWWords
namespace Go.Proofs.YtjgknblneokhlaaW.PrintWords
open Go.RowKit
section
variable {P : Program} {ops : Array Oper} {rest : List Oper} {o : Oper} {a : Act} {Q : Exit → Act → World → Prop} {W : World}
theorem gate_guard (hw : Region.wanted o (yielded ops a.tmps) = true) (h : wpList P ops Q ({ o with guard := none } :: rest) a W) : wpList P ops Q (o :: rest) a W := by
  have h1 : Region.wanted { o with guard := none } (yielded ops a.tmps) = true := rfl
  unfold wpList at h ⊢
  rw [if_pos h1] at h
  rw [if_pos hw]
  exact h
end
end Go.Proofs.YtjgknblneokhlaaW.PrintWords
