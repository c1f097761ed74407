/- For every two codes: of the map and the three numbers that the statement draws, RibbonValue of the program answers what the reference answers; for an edge that is no loop, the value is the sum of the values without the edge and with it contracted; for a bridge, the value with the edge contracted, x + 1 times. There are no conditions. -/
import Derived.Test.YtjgknblneokhlaaKVLWTab
namespace Go.Proofs.YtjgknblneokhlaaW.PrintLast
def up (b : Nat → Bool) (i : Nat) : Nat → Bool := fun j => if j = i then true else b j
section
variable {P : Program} {ops : Array Oper} {Q : Exit → Act → World → Prop} {md : Region.Mode} {T : Bool × List (List Nat × List Nat)} {B : List Nat} {O : List Nat} {b : Nat → Bool} {i j n : Nat}
end
end Go.Proofs.YtjgknblneokhlaaW.PrintLast
