/- A part of the proof of FnTutteMap. There are no conditions. -/
import Derived.Test.YtlpbalebodlipaaKTMWN
namespace Go.Proofs.YtlpbalebodlipaaW.PrintWords
open Go.RowKit
section
variable {w w' u:World} {m B g:Nat} {o:Obj} {row:Option Nat} {S:Nat->Prop} {a:Addr} {v:Value}
theorem Ol (hq:w.drewN m=w') (h:Below B u w):Below B u w':=by subst hq;exact bw h m
end
namespace Kd
section
variable {α:Type} {d:Kd α} {e base n m:Nat} {ok:Nat->Prop} {w w':World} {v:Value} {A:Option Addr} {xs:List α}
theorem Oh (hq:w.drewN m=w') (h:d.R e w base ok v xs):d.R e w' base ok v xs:=by subst hq;exact E9 h m
end
end Kd
end Go.Proofs.YtlpbalebodlipaaW.PrintWords
