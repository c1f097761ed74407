/- A part of the proof of FnQuadTree. There are no conditions. -/
import Derived.Test.YtlpbalebodlipaaKQXWTab
namespace Go.Proofs.YtlpbalebodlipaaW.PrintLast
def up(b:Nat->Bool)(i:Nat):Nat->Bool:=fun j=>if j=i then true else b j
section
variable {P:Program} {D:Array Oper} {Q:Exit->Act->World->Prop} {md:Region.Mode} {T:Bool×List (List Nat×List Nat)} {B:List Nat} {O:List Nat} {b:Nat->Bool} {i j n:Nat}
end
end Go.Proofs.YtlpbalebodlipaaW.PrintLast
