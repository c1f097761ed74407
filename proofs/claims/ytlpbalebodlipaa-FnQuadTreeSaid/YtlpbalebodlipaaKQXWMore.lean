/- A part of the proof of FnQuadTree. There are no conditions. -/
import Derived.Test.YtlpbalebodlipaaKQXWWords
import Derived.Test.YtlpbalebodlipaaKQXWLast
import Derived.Test.YtlpbalebodlipaaKQXWQPut
import Derived.Test.YtlpbalebodlipaaKQXWApart
import Derived.Test.YtlpbalebodlipaaKQXWArr
import Derived.Test.YtlpbalebodlipaaKQXWFoot
import Derived.Test.YtlpbalebodlipaaKQXWKept
import Derived.Test.YtlpbalebodlipaaKQXWNEv
namespace Go.Proofs.YtlpbalebodlipaaW.PrintMore
open Go.RowKit Go.Proofs.YtlpbalebodlipaaW.PrintWords
namespace Kd
open Go.Proofs.YtlpbalebodlipaaW.PrintWords.Kd
end Kd
namespace Kd
open Go.Proofs.YtlpbalebodlipaaW.PrintWords.Kd
section
variable {α:Type} {d:Kd α} {e base g N:Nat} {ok:Nat->Prop} {W w1:World} {u v:Value} {xs:List α}
theorem fL(hu:d.R e W base ok u xs)(hb:Below W.heap.size W w1):d.R e w1 base (fun k=>ok k/\k<W.heap.size) u xs:=
 ag (jD (hU hu) hb) (fun _ h=>⟨h.1,h.2.2.1⟩)
theorem sC(hu:d.R e W base (fun k=>ok k/\k≠g) u xs)(hk:aG W w1 g none):d.R e w1 base (fun k=>ok k/\k<W.heap.size) u xs:=
 ag (kw (hU hu) hk (fun _ h=>h.1.2)) (fun _ h=>⟨h.1.1,h.2.2.1⟩)
theorem cu(h:d.R e w1 base (fun k=>ok k/\k<N) u xs)(C:∀k,v.ownBlock=some k->N<=k):d.R e w1 base (fun k=>(ok k/\some k≠v.ownBlock)/\k<N) u xs:=
 ag h (fun k hk=>⟨⟨hk.1,fun e=>Nat.lt_irrefl _ (Nat.lt_of_lt_of_le hk.2 (C k e.symm))⟩,hk.2⟩)
end
end Kd
theorem jp(k k':IntKind)(x y:Int):Builtin.max2 (.int k x) (.int k' y)=pure (.int k (if x<y then y else x)):=by simp only[Builtin.max2,gt_iff_lt]
theorem jv(k k':IntKind)(x y:Int):Builtin.min2 (.int k x) (.int k' y)=pure (.int k (if y<x then y else x)):=by simp only[Builtin.min2]
theorem jl(f:Array TypeId)(ty:TypeId)(a b:Value):Builtin.max_ f ty #[a,b]=(Builtin.max2 a b>>=fun s=>pure s):=by simp only[Builtin.max_,List.foldlM_cons,List.foldlM_nil]
theorem jo(f:Array TypeId)(ty:TypeId)(a b:Value):Builtin.min_ f ty #[a,b]=(Builtin.min2 a b>>=fun s=>pure s):=by simp only[Builtin.min_,List.foldlM_cons,List.foldlM_nil]
theorem jC(f:Array TypeId)(ty:TypeId)(a b c:Value):Builtin.max_ f ty #[a,b,c]=(Builtin.max2 a b>>=fun s=>Builtin.max2 s c>>=fun s=>pure s):=by simp only[Builtin.max_,List.foldlM_cons,List.foldlM_nil]
theorem jy(f:Array TypeId)(ty:TypeId)(a b c:Value):Builtin.min_ f ty #[a,b,c]=(Builtin.min2 a b>>=fun s=>Builtin.min2 s c>>=fun s=>pure s):=by simp only[Builtin.min_,List.foldlM_cons,List.foldlM_nil]
theorem ji(f:Array TypeId)(ty:TypeId)(a b c d:Value):Builtin.max_ f ty #[a,b,c,d]=(Builtin.max2 a b>>=fun s=>Builtin.max2 s c>>=fun s=>Builtin.max2 s d>>=fun s=>pure s):=by simp only[Builtin.max_,List.foldlM_cons,List.foldlM_nil]
theorem je(f:Array TypeId)(ty:TypeId)(a b c d:Value):Builtin.min_ f ty #[a,b,c,d]=(Builtin.min2 a b>>=fun s=>Builtin.min2 s c>>=fun s=>Builtin.min2 s d>>=fun s=>pure s):=by simp only[Builtin.min_,List.foldlM_cons,List.foldlM_nil]
end Go.Proofs.YtlpbalebodlipaaW.PrintMore
namespace Go.Proofs.YtlpbalebodlipaaW.PrintWords
open Go.RowKit
section
variable {P:Program} {D:Array Oper} {rest:List Oper} {o:Oper} {a:Act} {Q:Exit->Act->World->Prop} {W:World}
theorem dB{b:Builtin}{xs:Array Operand}{ts:Array TypeId}(j:o.op= .call {callee:=.builtin b,args:=xs,argTypes:=ts})(h:wpList P D Q (o::rest) a W):wpList P D Q (o::rest) a W:=h
end
def mx(a b:Int):Int:=if a<b then b else a
def mn(a b:Int):Int:=if b<a then b else a
theorem qg(w:World)(n:Nat):w.drewN n=w.drewN n:=rfl
theorem cell_grown{W w1:World}{row:Option Nat}(hg:W.grownBy w1 row){a:Addr}{v:Value}(h:W.cell? a=some v)(B:some a.block≠row):w1.cell? a=some v:=by
 have:=hg.block a.block (World.block_lt_of_cell? W a h) B;simpa [World.cell?,this]using h
namespace Kd
section
variable {α:Type} {d:Kd α} {e base:Nat} {ok:Nat->Prop} {W w1:World} {v:Value} {xs:List α}
theorem kp(h:d.R e W base ok v xs)(hE:d.E=[]){row:Option Nat}(hg:W.grownBy w1 row)(B:∀k,row=some k->some k≠v.ownBlock):d.R e w1 base ok v xs:=
 ag (FB (lN hE h) hg (fun k hk e_=>B k e_.symm hk)) (fun k hk=>h.1 k hk.symm)
end
section
variable {α:Type} {d:Kd α} {e base g n G:Nat} {ok I okp:Nat->Prop} {W:World} {xs:List α} {i:Int} {c:List Value}
theorem wS(h:H d e W base ok (.slice (some ⟨g,0,none⟩) n G) xs i I c)(h0:0<=i)(h1:i<n):(∀j u,c[j]?=some u->W.cell? ⟨g,i.toNat*d.sz+j,none⟩=some u)/\∀j,W.frozen? ⟨g,i.toNat*d.sz+j,none⟩=false:=by
 obtain⟨rows,_,l,_,_,t,_⟩:=pG h h0 h1;obtain⟨_,_,_,_,f⟩:=vk l [] i h0 h1;exact⟨t,f⟩
theorem wR(hH:H d e W base ok (.slice (some ⟨g,0,none⟩) n G) xs i I c)(h0:0<=i)(h1:i<n){seg:List Value}{j:Nat}(hj:j+seg.length<=d.sz)
 {x':α} (hM:d.M W base okp x' (c.take j++seg++c.drop (j+seg.length))) (F:∀k,okp k->I k):
 S d e (W.setCells g (i.toNat*d.sz+j) seg) base ok (.slice (some ⟨g,0,none⟩) n G) (xs.set i.toNat x')/\W.grownBy (W.setCells g (i.toNat*d.sz+j) seg) (some g):=
 Gh (okg:=fun _=>False) (H8 hH (fun _ hk=>⟨hk,fun h=>h⟩)) h0 h1 hj hM (fun k hk=>.inl (F k hk)) (fun _ hk=>hk.elim)
end
section
variable {α:Type} {d:Kd α} {e base b b' g N:Nat} {ok p:Nat->Prop} {W W2 w1:World} {u v:Value} {xs ys:List α} {S:Nat->Prop}
theorem sI(hE:d.E=[])(h:d.R e W base p v xs)(r:∀k,v.ownBlock=some k->ok k):d.R e W base ok v xs:=ag (lN hE h) (fun k hk=>r k hk.symm)
theorem nI(h:d.R e W base ok v xs)(hk:Kept W W2 S)(B:∀k,ok k->¬S k):d.R e W2 base (fun k=>ok k/\(¬S k/\k<W.heap.size)) v xs:=
 Cn (ag (hU h) (fun k hk=>⟨hk.1,B k hk.1,hk.2.2.1⟩)) hk (fun _ hk=>hk.2.1)
theorem GV(h:Kd.S d e W base ok v xs)(hk:Kept W W2 S)(B:∀k,ok k->¬S k):Kd.S d e W2 base (fun k=>ok k/\(¬S k/\k<W.heap.size)) v xs:=
 EV (cC (yR h) (fun k hk=>⟨hk.1,B k hk.1,hk.2.2.1⟩)) hk (fun _ hk=>hk.2.1)
theorem pH(hu:d.Q e W base ok u xs)(hb:Below W.heap.size W w1):d.Q e w1 base (fun k=>ok k/\k<W.heap.size) u xs:=bX (mZ (oQ hu) hb) (fun _ h=>⟨h.1,h.2.2.1⟩)
theorem Ij(hu:d.Q e W base (fun k=>ok k/\k≠g) u xs)(hk:aG W w1 g none):d.Q e w1 base (fun k=>ok k/\k<W.heap.size) u xs:=bX (fZ (oQ hu) hk (fun _ h=>h.1.2)) (fun _ h=>⟨h.1.1,h.2.2.1⟩)
theorem ku(h:d.Q e w1 base (fun k=>ok k/\k<N) u xs)(C:∀k,v.ownBlock=some k->N<=k):d.Q e w1 base (fun k=>(ok k/\some k≠v.ownBlock)/\k<N) u xs:=
 bX h (fun k hk=>⟨⟨hk.1,fun e=>Nat.lt_irrefl _ (Nat.lt_of_lt_of_le hk.2 (C k e.symm))⟩,hk.2⟩)
end
end Kd
end Go.Proofs.YtlpbalebodlipaaW.PrintWords
namespace Go.Proofs.YtlpbalebodlipaaW.PrintWords
open Go.RowKit
namespace Kd
def V{α:Type}(d:Kd α)(_e:Nat)(W:World)(f:Nat)(ok:Nat->Prop)(v:Value)(xs:List α):Prop:=∃A c,v= .slice A xs.length c/\xs.length<=c/\F d W ok A xs.length xs
section
variable {α β:Type} {d:Kd α} {e base base' n m c g N' lo hi:Nat} {ok ok' S:Nat->Prop} {w W w1:World} {A:Option Addr} {ad:Addr} {u v v1:Value} {xs:List α}
theorem mM(h:V d e W base ok v xs)(hF:∀A,F d W ok A xs.length xs->F d w1 ok' A xs.length xs):V d e w1 base' ok' v xs:=by
 obtain⟨A,c,hv,hl,hf⟩:=h;exact⟨A,c,hv,hl,hF A hf⟩
theorem fp(hl:xs.length<=c)(hf:F d W ok A xs.length xs):V d e W base ok (.slice A xs.length c) xs:=⟨A,c,rfl,hl,hf⟩
theorem tu(h:V d e W base ok (.slice A n c) xs):n=xs.length/\n<=c/\F d W ok A xs.length xs:=by
 obtain⟨A',c',hv,hl,hf⟩:=h;injection hv with ha hn hc;subst ha;subst hc;exact⟨hn,by rw[hn];exact hl,hf⟩
theorem gy(h:V d e W base ok (.slice A n c) xs):n=xs.length/\n<=c/\d.C W A xs.length xs:=⟨(tu h).1,(tu h).2.1,FL (tu h).2.2⟩
theorem V_F(h:V d e W base ok (.slice A n c) xs):F d W ok A n xs:=by
 obtain⟨hn,_,hf⟩:=tu h;rw[hn];exact hf
theorem jA(d:Kd α)(e:Nat)(W:World)(base:Nat)(ok:Nat->Prop):V d e W base ok (.slice none 0 0) []:=⟨none,0,rfl,Nat.le_refl _,Gc d W ok⟩
theorem ox(h:V d e W base ok v xs)(r:∀k,ok k->ok' k):V d e W base ok' v xs:=mM h (fun _ hf=>vF hf r)
theorem vu(h:V d e W base ok v xs)(hb:Below W.heap.size W w1):V d e w1 base ok v xs:=mM h (fun _ hf=>dZ hf hb)
theorem HT(h:V d e W base ok v xs)(o:Obj):V d e (W.alloc o) base ok v xs:=mM h (fun _ hf=>Hu hf o)
theorem FC(h:V d e W base ok v xs):V d e W.drew base ok v xs:=mM h (fun _ hf=>DF hf)
theorem EW(h:V d e W base ok v xs)(m:Nat):V d e (W.drewN m) base ok v xs:=mM h (fun _ hf=>FZ hf m)
theorem oH(h:V d e W base ok v xs)(C:∀k,u.ownBlock=some k->W.heap.size<=k)(hb:Below W.heap.size W w1):V d e w1 base (fun k=>ok k/\some k≠u.ownBlock) v xs:=mM h (fun _ hf=>ED hf C hb)
theorem AX(h:V d e W base ok v xs)(a:Nat)(ha:W.heap.size<=a):V d e W base (fun k=>ok k/\k≠a) v xs:=mM h (fun _ hf=>GI hf a ha)
theorem Di{l:List α}(hl:l.length<=c)(hf:F d W ok A l.length l):FK (Kd.slice e d) W ok l [.slice A l.length c]:=fun W' hW=>⟨A,c,rfl,hl,hf W' hW⟩
theorem CF{k:IntKind}{l:List Int}(h:(Kd.int k).C w (some ad) n l)(i:Int)(h0:0<=i)(h1:i<n):w.cell? (ad.add i.toNat)=some (.int k (rd l i)):=by
 obtain⟨f,he,hc⟩:=eQ h i h0 h1;injection he with he;subst he;exact hc
theorem FE{M:Nat->Prop}(h:d.R e w1 W.heap.size ok v xs)(T:w.heap.size<=W.heap.size)(hM:∀k,w.heap.size<=k->M k):d.R e w1 W.heap.size (fun k=>M k/\ok k) v xs:=ag (hU h) (fun k hk=>⟨hM k (Nat.le_trans T hk.2.1),hk.1⟩)
end
end Kd
end Go.Proofs.YtlpbalebodlipaaW.PrintWords
