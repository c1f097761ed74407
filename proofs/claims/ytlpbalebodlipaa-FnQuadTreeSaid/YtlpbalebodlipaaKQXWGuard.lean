/- A part of the proof of FnQuadTree. There are no conditions. -/
import Derived.Test.YtlpbalebodlipaaKQXWWords
namespace Go.Proofs.YtlpbalebodlipaaW.PrintWords
open Go.RowKit
section
variable {P:Program} {D:Array Oper} {rest:List Oper} {o:Oper} {a:Act} {Q:Exit->Act->World->Prop} {W:World}
theorem dV(hw:Region.wanted o (yielded D a.tmps)=true)(h:wpList P D Q ({o with guard:=none}::rest) a W):wpList P D Q (o::rest) a W:=by
 have h1:Region.wanted {o with guard:=none} (yielded D a.tmps)=true:=rfl;unfold wpList at h ⊢;rw[if_pos h1]at h;rw[if_pos hw];exact h
end
end Go.Proofs.YtlpbalebodlipaaW.PrintWords
