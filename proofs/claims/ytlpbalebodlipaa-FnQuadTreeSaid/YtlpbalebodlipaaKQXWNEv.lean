/- A part of the proof of FnQuadTree. There are no conditions. -/
import Derived.Test.YtlpbalebodlipaaKQXWN
namespace Go.Proofs.YtlpbalebodlipaaW.PrintWords
open Go.RowKit
namespace Kd
section
variable {α:Type} {d:Kd α} {e base n G g:Nat} {ok ok' okp:Nat->Prop} {w w1 W:World} {v v1:Value} {xs ys:List α}
theorem Ez{rows:List (List Value)}(hR:(mT d.sz).R e w1 base (fun k=>k=W.heap.size) v1 rows)(hg:W.grownBy w1 none)(hat:∃b,v1.ownBlock=some b/\W.heap.size<=b)(hl:rows.length=xs.length)(hf:∀(j:Nat) (x:α) (c:List Value),xs[j]?=some x->rows[j]?=some c->FK d W okp x c)
 (r:∀k,okp k->ok k)(E:ok W.heap.size):N d e w1 base ok v1 xs:=by
 obtain⟨b,hb,T⟩:=hat;refine⟨fun k hk=>by rw[hR.1 k hk];exact E,rows,hl,HI hR,fun j x c hx hc=>?_⟩;refine wU (yb (xq (hf j x c hx hc)) (fun k hk hlt=>hg.block k hlt (by simp))) (fun k hk=>⟨r k hk.1,fun he=>?_⟩);rw[hb]at he;injection he with he;have:=hk.2;omega
end
section
variable {P:Program} {D:Array Oper} {rest:List Oper} {o:Oper} {a:Act} {Q:Exit->Act->World->Prop} {Kc:Act->World->Prop} {α:Type}
theorem Hk(d:Kd α){w0 W:World}(base e:Nat)(db:o.guard=none){N':Tmp}(l:o.dst=some N'){xs:List α}{inner:List Value}{ok okp:Nat->Prop}
 (cG:(execOp a.eval o).run P W= .ok (.value (.slice (some ⟨W.heap.size,0,none⟩) xs.length xs.length)) (W.alloc (.cells inner.toArray e)))
 (f:aD (FK d W okp) d.sz xs inner)(r:∀k,okp k->ok k)(E:ok W.heap.size)(HB:Below base w0 W)(C:base<=W.heap.size)(hm:xs.length<=9223372036854775807)
 (h:∀v1 w1,N d e w1 base ok v1 xs->Below base w0 w1->W.grownBy w1 none->(∃b,v1.ownBlock=some b/\W.heap.size<=b)->wpList P D Q rest (a.put o.dst v1) w1):
 wpList P D Q (o::rest) a W:=by
 refine du (mT d.sz) base e db l (xs:=chunks d.sz xs.length inner) (inner:=inner) (ok:=fun k=>k=W.heap.size) (okp:=fun _=>False) (by rw[mm];exact cG) (yN f (fun y c hk=>⟨d.K_len (uY hk),d.K_one (uY hk)⟩)) (fun _ hk=>hk.elim) rfl HB C (by rw[mm];exact hm) ?_;intro v1 w1 hr hb hg hat;exact h v1 w1 (Ez hr hg hat (mm _ _ _) (fun j y c hy hc=>by rw[uE hc];exact f.2 j y hy) r E) hb hg hat
end
end Kd
end Go.Proofs.YtlpbalebodlipaaW.PrintWords
