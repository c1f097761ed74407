/- A part of the proof of FnQuadTree. There are no conditions. -/
import Derived.Test.YtlpbalebodlipaaKQXWN
namespace Go.Proofs.YtlpbalebodlipaaW.PrintWords
open Go.RowKit
section
variable {w w' u:World} {m B g:Nat} {o:Obj} {row:Option Nat} {S:Nat->Prop} {a:Addr} {v:Value}
theorem qo(hq:w.drewN m=w')(h:Below B u w):Below B u w':=by subst hq;exact cg h m
theorem Cj(hq:w.drewN m=w')(h:w.heap[g]?=some o):w'.heap[g]?=some o:=by subst hq;exact h
end
namespace Kd
section
variable {α:Type} {d:Kd α} {e base n m:Nat} {ok:Nat->Prop} {w w':World} {v:Value} {A:Option Addr} {xs:List α}
theorem kY(hq:w.drewN m=w')(h:d.R e w base ok v xs):d.R e w' base ok v xs:=by subst hq;exact qc h m
theorem Cf(hq:w.drewN m=w')(h:Kd.S d e w base ok v xs):Kd.S d e w' base ok v xs:=by subst hq;exact lJ h m
theorem pP(hq:w.drewN m=w')(h:d.C w A n xs):d.C w' A n xs:=by subst hq;exact jF h m
end
end Kd
end Go.Proofs.YtlpbalebodlipaaW.PrintWords
