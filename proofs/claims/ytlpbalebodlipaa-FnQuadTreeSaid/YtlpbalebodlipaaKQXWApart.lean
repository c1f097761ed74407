/- A part of the proof of FnQuadTree. There are no conditions. -/
import Derived.Test.YtlpbalebodlipaaKQXWWords
import Derived.Test.YtlpbalebodlipaaKQXWLast
namespace Go.Proofs.YtlpbalebodlipaaW.PrintWords
open Go.RowKit
namespace Kd
def tag{α:Type}(f:Nat->Nat)(d:Kd α):Kd (α×Nat) where
 sz:=d.sz
 E:=d.E
 K:=fun w x cs=>d.K w x.1 cs
 M:=fun w base ok x cs=>d.M w base (fun k=>ok k/\f k=x.2) x.1 cs
 K_len:=fun h=>d.K_len h
 K_one:=fun h=>d.K_one h
 K_below:=fun hb h=>d.K_below hb h
 K_of_M:=fun h=>d.K_of_M h
 M_mono:=fun r h=>d.M_mono (fun k hk=>⟨r k hk.1,hk.2⟩) h
 M_bound:=fun h=>d.M_mono (fun _ hk=>⟨⟨hk.1.1,hk.2⟩,hk.1.2⟩) (d.M_bound h)
 M_move:=fun hm h=>d.M_move (fun k hk=>hm k hk.1) h
 M_lower:=fun hb h=>d.M_lower hb h
def bare{α:Type}(d:Kd α):Kd α where
 sz:=d.sz
 E:=d.E
 K:=d.K
 M:=fun w base _ x cs=>d.M w base (fun _=>False) x cs
 K_len:=fun h=>d.K_len h
 K_one:=fun h=>d.K_one h
 K_below:=fun hb h=>d.K_below hb h
 K_of_M:=fun h=>d.K_of_M h
 M_mono:=fun _ h=>h
 M_bound:=fun h=>h
 M_move:=fun _ h=>d.M_move (fun _ hk=>hk.elim) h
 M_lower:=fun hb h=>d.M_lower hb h
def mT(sz:Nat):Kd (List Value) where
 sz:=sz
 E:=[]
 K:=fun _ x cs=>cs=x/\cs.length=sz/\∀u∈cs,u.oneCell'=true
 M:=fun _ _ _ x cs=>cs=x/\cs.length=sz/\∀u∈cs,u.oneCell'=true
 K_len:=fun h=>h.2.1
 K_one:=fun h=>h.2.2
 K_below:=fun _ h=>h
 K_of_M:=fun h=>h
 M_mono:=fun _ h=>h
 M_bound:=fun h=>h
 M_move:=fun _ h=>h
 M_lower:=fun _ h=>h
def S{α:Type}(d:Kd α)(e:Nat)(w:World)(base:Nat)(ok:Nat->Prop)(v:Value)(xs:List α):Prop:=∃f,(tag f d).R e w base ok v xs.zipIdx
section
variable {α β:Type} {d:Kd α} {d':Kd β} {e e':Nat} {w w1 W:World} {base b:Nat} {ok ok' X af:Nat->Prop} {u v:Value} {xs:List α} {ys:List β}
theorem lV{xs:List α}{j:Nat}{p:α}(h:xs[j]?=some p):xs.zipIdx[j]?=some (p,j):=by rw[List.getElem?_zipIdx,h,Nat.zero_add];rfl
theorem l7(h:S d e w base ok v xs):d.R e w base ok v xs:=by
 obtain⟨f,h0,inner,ho,hr⟩:=h;rw[List.length_zipIdx]at ho;exact⟨h0,inner,ho,by have:=hr.1;rw[List.length_zipIdx]at this;exact this,fun j p hj=>d.M_mono (fun _ hk=>hk.1) (hr.2 j (p,j) (lV hj))⟩
theorem Iu{ad:Addr}{n G:Nat}(h:d.R e w base ok (.slice (some ad) n G) xs):∃g,ad=⟨g,0,none⟩:=by
 obtain⟨_,inner,ho,hr⟩:=h;rcases ho.2 with⟨hv,_⟩|⟨g,S,l,hv,_⟩
 ·cases hv
 · injection hv with ha _ _
   injection ha with ha;exact⟨g,ha⟩
theorem G9{ad:Addr}{n G:Nat}(h:d.R e W base ok (.slice (some ad) n G) xs)(z:α)(i:Int)(h0:0<=i)(h1:i<n):
 ∃c,c.length=d.sz/\d.M W base (fun k=>ok k/\some k≠(Value.slice (some ad) n G).ownBlock) (xs.getD i.toNat z) c/\∀j u,c[j]?=some u->W.cell? (ad.add (i.toNat*d.sz+j))=some u:=by
 obtain⟨g,rfl⟩:=Iu h;obtain⟨c,L,hM,t,_⟩:=vk h z i h0 h1;refine⟨c,L,d.M_mono (fun k hk=>⟨hk.1,fun he=>hk.2 (by simpa [Value.ownBlock]using he)⟩) hM,fun j u hu=>?_⟩;rw[jE,Nat.zero_add];exact t j u hu
theorem lN(hE:d.E=[])(h:d.R e w base ok v xs):d.R e w base (fun k=>some k=v.ownBlock) v xs:=by
 obtain⟨h0,inner,ho,hr⟩:=h;refine⟨fun k hk=>hk.symm,inner,ho,hr.dW (fun p c hp=>d.M_mono (fun k hk=>?_) (d.M_bound hp))⟩;obtain⟨_,_,_,q,hq,_⟩:=hk;rw[hE]at hq;cases hq
theorem js(d:Kd α)(e:Nat)(w:World)(base:Nat)(ok:Nat->Prop):S d e w base ok (.slice none 0 0) []:=⟨fun _=>0,gx _ _ _ _ _⟩
theorem cC(h:S d e w base ok v xs)(r:∀k,ok k->ok' k):S d e w base ok' v xs:=by
 obtain⟨f,h⟩:=h;exact⟨f,ag h r⟩
theorem yR(h:S d e w base ok v xs):S d e w base (fun k=>ok k/\base<=k/\k<w.heap.size/\∃q,q∈e::d.E/\∃cells,w.heap[k]?=some (.cells cells q (0,0))) v xs:=by
 obtain⟨f,h⟩:=h;exact⟨f,hU h⟩
theorem DW(h:S d e w base ok v xs)(hm:∀k,ok k->w1.heap[k]?=w.heap[k]?):S d e w1 base ok v xs:=by
 obtain⟨f,h⟩:=h;exact⟨f,oe h hm⟩
theorem kj{base':Nat}(h:S d e w base ok v xs)(hb:base'<=base):S d e w base' ok v xs:=by
 obtain⟨f,h⟩:=h;exact⟨f,aH h hb⟩
theorem tQ(h:S d e w base ok v xs)(hm:∀k,ok k->k<w.heap.size->w1.heap[k]?=w.heap[k]?):S d e w1 base ok v xs:=
 cC (DW (yR h) (fun k hk=>hm k hk.1 hk.2.2.1)) (fun _ hk=>hk.1)
theorem o7(h:S d e w base ok v xs)(hb:Below w.heap.size w w1):S d e w1 base ok v xs:=tQ h (fun k _ hk=>hb.block k hk)
theorem l8(h:S d e w base ok v xs)(o:Obj):S d e (w.alloc o) base ok v xs:=o7 h (bK (Below.refl _ _) o)
theorem jB(h:S d e w base ok v xs):S d e w.drew base ok v xs:=o7 h (ni (Below.refl _ _))
theorem lJ(h:S d e w base ok v xs)(m:Nat):S d e (w.drewN m) base ok v xs:=o7 h (cg (Below.refl _ _) m)
theorem vX(h:S d e w base ok v xs){p:Addr}(r:∀k,ok k->k≠p.block)(u:Value):S d e (w.setCell p u) base ok v xs:=tQ h (fun k ho _=>Below.heap_setCell w p u k (r k ho))
theorem D9(h:S d e w base ok v xs){g t:Nat}{cells:Array Value}(hb:w.heap[g]?=some (.cells cells t (0,0)))(ht:∀q,q∈e::d.E->q≠t):S d e w base (fun k=>ok k/\k≠g) v xs:=by
 obtain⟨f,h⟩:=h;exact⟨f,bn h hb ht⟩
theorem oP(h:S d e w base ok v xs):∀k,v.ownBlock=some k->∃cells,w.heap[k]?=some (.cells cells e (0,0)):=dO (l7 h)
theorem Bs(h:S d e w base ok v xs):∀k,v.ownBlock=some k->k<w.heap.size:=aj (l7 h)
theorem vw(h:S d e w base ok v xs):∀k,v.ownBlock=some k->base<=k:=ar (l7 h)
theorem xE(h:S d e W base ok u xs)(l:∀k,v.ownBlock=some k->∃cells,W.heap[k]?=some (.cells cells e' (0,0)))(ht:∀q,q∈e::d.E->q≠e')(hg:W.grownBy w1 v.ownBlock):S d e w1 base ok u xs:=by
 obtain⟨f,h⟩:=h;exact⟨f,dM h l ht hg⟩
theorem kM(h:S d e W base ok u xs)(C:∀k,v.ownBlock=some k->W.heap.size<=k)(hb:Below W.heap.size W w1):S d e w1 base (fun k=>ok k/\some k≠v.ownBlock) u xs:=by
 obtain⟨f,h⟩:=h;exact⟨f,aC h C hb⟩
theorem im(h:S d e w1 W.heap.size ok v xs)(hlt:∀k,u.ownBlock=some k->k<W.heap.size):S d e w1 W.heap.size (fun k=>ok k/\some k≠u.ownBlock) v xs:=by
 obtain⟨f,h⟩:=h;exact⟨f,ax h hlt⟩
theorem gh{v1:Value}(h:S d e W base (fun k=>ok k/\some k≠v.ownBlock) u xs)(hg:W.grownBy w1 v.ownBlock)(hat:v1.ownBlock=v.ownBlock\/∃b,v1.ownBlock=some b/\W.heap.size<=b):S d e w1 base (fun k=>ok k/\some k≠v1.ownBlock) u xs:=by
 obtain⟨f,h⟩:=h;exact⟨f,aQ h hg hat⟩
theorem BQ(h:(bare d).R e w base ok v xs):S d e w base ok v xs:=by
 obtain⟨h0,inner,ho,hr⟩:=h;refine⟨fun _=>0,h0,inner,by rw[List.length_zipIdx];exact ho,by rw[List.length_zipIdx];exact hr.1,fun j p hj=>?_⟩;rw[List.getElem?_zipIdx,Nat.zero_add]at hj;obtain⟨x,hx,rfl⟩:=Option.map_eq_some_iff.1 hj;exact d.M_mono (fun _ hk=>hk.elim) (hr.2 j x hx)
theorem Gd{f f':Nat->Nat}{zs:List (α×Nat)}(h:(tag f d).R e w base ok v zs)(hf:∀k,ok k->k<w.heap.size->f' k=f k):(tag f' d).R e w base ok v zs:=by
 obtain⟨h0,inner,ho,hr⟩:=hU h;exact⟨fun k hk=>(h0 k hk).1,inner,ho,hr.1,fun j p hj=>d.M_mono (fun k hk=>⟨⟨hk.1.1.1,hk.1.2⟩,(hf k hk.1.1.1 hk.1.1.2.2.1).trans hk.2⟩) (hr.2 j p hj)⟩
end
section
variable {α β:Type} {d:Kd α} {d':Kd β} {e e' g:Nat} {w w1 W:World} {base b:Nat} {ok ok' X af:Nat->Prop} {u v:Value} {xs:List α} {ys:List β}
theorem vY(h:S d e w base ok v xs)(hp:0<xs.length):∃g G,v= .slice (some ⟨g,0,none⟩) xs.length G/\base<=g/\g<w.heap.size/\∃cells,w.heap[g]?=some (.cells cells e (0,0)):=dv (l7 h) hp
theorem il(h:S d e w base ok v xs):∃A c,v= .slice A xs.length c:=az (l7 h)
theorem dI{A:Option Addr}{n c:Nat}(h:S d e w base ok (.slice A n c) xs):n=xs.length/\n<=c/\d.C w A xs.length xs:=am (l7 h)
theorem gD{ad:Addr}{n G:Nat}(h:S d e W base ok (.slice (some ad) n G) xs)(z:α)(i:Int)(h0:0<=i)(h1:i<n):
 ∃c,c.length=d.sz/\d.M W base (fun k=>ok k/\some k≠(Value.slice (some ad) n G).ownBlock) (xs.getD i.toNat z) c/\∀j u,c[j]?=some u->W.cell? (ad.add (i.toNat*d.sz+j))=some u:=G9 (l7 h) z i h0 h1
theorem Fe(xs:List α)(p:α):(xs++[p]).zipIdx=xs.zipIdx++[(p,xs.length)]:=by rw[List.zipIdx_append];simp
end
section
open Classical in
theorem Ft{α:Type}{d:Kd α}{e base:Nat}{X:Nat->Prop}{w:World}{v:Value}{xs:List α}(h:S d e w base X v xs)(m:Nat)(okp:Nat->Prop)(j:∀k,okp k->¬X k):∃f,(∀k,okp k->f k=m)/\(tag f d).R e w base X v xs.zipIdx:=by
 obtain⟨f,h⟩:=h;exact⟨fun k=>if okp k then m else f k,fun k hk=>if_pos hk,Gd h (fun k hk _=>if_neg (fun h2=>j k h2 hk))⟩
variable {P:Program} {D:Array Oper} {rest:List Oper} {o:Oper} {a:Act} {Q:Exit->Act->World->Prop} {Kc:Act->World->Prop} {α:Type}
theorem Af(d:Kd α){w0 W:World}(base:Nat)(db:o.guard=none)(s x:Operand)(t e:TypeId)(z:Value)(bytes:Nat)
 (ho:o.op= .call {callee:=.builtin .append,args:=#[s,x],argTypes:=#[t,t]})
 (ht:P.underlying t=some (.slice e))(J:(P.info? e).map (fun i=>(i.zero,i.size,i.bytes))=some (some z,d.sz,bytes))(hz:z.cells.size=d.sz)(j:0<d.sz)(O:0<bytes)
 (v:Value)(xs:List α)(p:α)(cs:List Value)(ok okp:Nat->Prop)(hs:a.eval s=v)(hx:a.eval x= .slice (some ⟨W.heap.size,0,none⟩) 1 1)(hp:d.M W base okp p cs)(F:∀k,okp k->ok k/\some k≠v.ownBlock)(E:∀k,W.heap.size<=k->ok k)
 (HO:S d e W base (fun k=>ok k/\¬okp k) v xs)(HB:Below base w0 W)(C:base<=W.heap.size)(hl:(xs.length+1)*bytes<=140737488355328)
 (h:∀v1 w1,S d e w1 base ok v1 (xs++[p])->Below base w0 w1->W.grownBy w1 v.ownBlock->(v1.ownBlock=v.ownBlock\/∃b,v1.ownBlock=some b/\W.heap.size<=b)->wpList P D Q rest (a.put o.dst v1) w1):
 wpList P D Q (o::rest) a (W.alloc (.cells cs.toArray e)):=by
 obtain⟨f,hf,hR⟩:=Ft HO xs.length okp (fun _ hk h2=>h2.2 hk);refine dH (tag f d) base db s x t e z bytes ho ht J hz j O v xs.zipIdx (p,xs.length) cs ok okp hs hx (d.M_mono (fun k hk=>⟨hk,hf k hk⟩) hp) F E (ag hR (fun _ hk=>hk.1)) HB C (by rw[List.length_zipIdx];exact hl) ?_;intro v1 w1 hr;rw[<-Fe]at hr;exact h v1 w1 ⟨f,hr⟩
theorem BX(d:Kd α){w0 W:World}(base e:Nat)(db:o.guard=none){N:Tmp}(l:o.dst=some N){xs:List α}{inner:List Value}{ok okp:Nat->Prop}
 (cG:(execOp a.eval o).run P W= .ok (.value (.slice (some ⟨W.heap.size,0,none⟩) xs.length xs.length)) (W.alloc (.cells inner.toArray e)))
 (f:aD (d.M W base (fun _=>False)) d.sz xs inner)(m:∀k,okp k->ok k)(E:ok W.heap.size)(HB:Below base w0 W)(C:base<=W.heap.size)(hm:xs.length<=9223372036854775807)
 (h:∀v1 w1,S d e w1 base ok v1 xs->Below base w0 w1->W.grownBy w1 none->(∃b,v1.ownBlock=some b/\W.heap.size<=b)->wpList P D Q rest (a.put o.dst v1) w1):wpList P D Q (o::rest) a W:=
 du (bare d) base e db l (ok:=ok) (okp:=ok) cG f (fun _ hk=>hk) E HB C hm (fun v1 w1 hr=>h v1 w1 (BQ hr))
theorem D5(d:Kd α){w0 W:World}(base e:Nat)(db:o.guard=none){N:Tmp}(hd:o.dst=some N)(t:TypeId)(x y:Operand)(ho:o.op= .makeSlice t x y)(n:Int)(hx:a.eval x= .int .i64 n)(hy:a.eval y= .int .i64 n)
 (ht:P.underlying t=some (.slice e))(z:Value)(bytes:Nat)(J:(P.info? e).map (fun i=>(i.zero,i.size,i.bytes))=some (some z,d.sz,bytes))(hz:z.cells.size=d.sz)(j:0<d.sz)(O:0<bytes)
 (z0:α){ok okp:Nat->Prop}(f:d.M W base (fun _=>False) z0 z.cells.toList)(m:∀k,okp k->ok k)(E:ok W.heap.size)(h0:0<=n)(hl:n.toNat*bytes<=281474976710656)(HB:Below base w0 W)(C:base<=W.heap.size)
 (h:∀v1 w1,S d e w1 base ok v1 (List.replicate n.toNat z0)->Below base w0 w1->W.grownBy w1 none->(∃b,v1.ownBlock=some b/\W.heap.size<=b)->wpList P D Q rest (a.put o.dst v1) w1):wpList P D Q (o::rest) a W:=
 gX (bare d) base e db hd t x y ho n hx hy ht z bytes J hz j O z0 (ok:=ok) (okp:=ok) f (fun _ hk=>hk) E h0 hl HB C (fun v1 w1 hr=>h v1 w1 (BQ hr))
end
def gap{α:Type}(f:Nat->Nat)(d:Kd α)(i:Nat)(c:List Value):Kd (α×Nat) where
 sz:=d.sz
 E:=d.E
 K:=fun w x cs=>(x.2=i->cs=c/\cs.length=d.sz/\∀u∈cs,u.oneCell'=true)/\(x.2≠i->d.K w x.1 cs)
 M:=fun w base ok x cs=>(x.2=i->cs=c/\cs.length=d.sz/\∀u∈cs,u.oneCell'=true)/\(x.2≠i->d.M w base (fun k=>ok k/\f k=x.2) x.1 cs)
 K_len:=fun {w x cs} h=>by
  by_cases hx:x.2=i
  ·exact(h.1 hx).2.1
  ·exact d.K_len (h.2 hx)
 K_one:=fun {w x cs} h=>by
  by_cases hx:x.2=i
  ·exact(h.1 hx).2.2
  ·exact d.K_one (h.2 hx)
 K_below:=fun hb h=>⟨h.1,fun hx=>d.K_below hb (h.2 hx)⟩
 K_of_M:=fun h=>⟨h.1,fun hx=>d.K_of_M (h.2 hx)⟩
 M_mono:=fun r h=>⟨h.1,fun hx=>d.M_mono (fun k hk=>⟨r k hk.1,hk.2⟩) (h.2 hx)⟩
 M_bound:=fun h=>⟨h.1,fun hx=>d.M_mono (fun _ hk=>⟨⟨hk.1.1,hk.2⟩,hk.1.2⟩) (d.M_bound (h.2 hx))⟩
 M_move:=fun hm h=>⟨h.1,fun hx=>d.M_move (fun k hk=>hm k hk.1) (h.2 hx)⟩
 M_lower:=fun hb h=>⟨h.1,fun hx=>d.M_lower hb (h.2 hx)⟩
def H{α:Type}(d:Kd α)(e:Nat)(w:World)(base:Nat)(ok:Nat->Prop)(v:Value)(xs:List α)(i:Int)(I:Nat->Prop)(c:List Value):Prop:=
 (∀k,I k->ok k)/\∃f,(gap f d i.toNat c).R e w base (fun k=>ok k/\¬I k) v xs.zipIdx
section
variable {α β:Type} {d:Kd α} {e e' g n G:Nat} {w w1 W:World} {base:Nat} {ok ok' I okp:Nat->Prop} {u v:Value} {xs:List α} {i:Int} {c:List Value}
theorem FG(h:S d e W base ok (.slice (some ⟨g,0,none⟩) n G) xs)(z:α)(i:Int)(h0:0<=i)(h1:i<n):
 ∃(I:Nat->Prop) (c:List Value),c.length=d.sz/\d.M W base I (xs.getD i.toNat z) c/\(∀j u,c[j]?=some u->W.cell? ⟨g,i.toNat*d.sz+j,none⟩=some u)/\(∀k,I k->ok k/\k≠g)/\H d e W base ok (.slice (some ⟨g,0,none⟩) n G) xs i I c:=by
 obtain⟨f,hR⟩:=h;have hn:=(am hR).1;rw[List.length_zipIdx]at hn;have y:some g=(Value.slice (some ⟨g,0,none⟩) n G).ownBlock:=by simp[Value.ownBlock]
 obtain⟨x,inner,ho,hr⟩:=hR;have s:i.toNat<xs.length:=by omega
 have N:inner.length=xs.length*d.sz:=by have:=hr.1;rw[List.length_zipIdx]at this;exact this
 have O:i.toNat*d.sz+d.sz<=inner.length:=by rw[N,<-Nat.succ_mul];exact Nat.mul_le_mul_right _ s
 have hM:=hr.2 i.toNat _ (lV (List.getElem?_eq_getElem s));have t:∀k,some k≠(Value.slice (some ⟨g,0,none⟩) n G).ownBlock->k≠g:=fun k hk he=>hk (by rw[he];exact y)
 refine⟨fun k=>(ok k/\k≠g)/\f k=i.toNat,(inner.drop (i.toNat*d.sz)).take d.sz,by rw[List.length_take,List.length_drop];omega,?_,fun j u hu=>?_,fun k hk=>hk.1,fun k hk=>hk.1.1,f,fun k hk=>⟨x k hk,fun h2=>h2.1.2 ?_⟩,inner,ho,hr.1,fun m p hm=>?_⟩
 · rw[List.getD_eq_getElem?_getD,List.getElem?_eq_getElem s]
   exact d.M_mono (fun k hk=>⟨⟨hk.1.1,t k hk.1.2⟩,hk.2⟩) hM
 · rw[List.getElem?_take]at hu
   split at hu
   · rw[List.getElem?_drop]at hu
     have:=ho.cells (g:=g) y.symm _ u hu
     rwa [add_plain]at this
   ·cases hu
 ·rw[<-y]at hk;injection hk with hk;exact hk.symm
 · have hold:=hr.2 m p hm
   have l:p.2=m:=by
    rw[List.getElem?_zipIdx,Nat.zero_add]at hm;obtain⟨q,_,rfl⟩:=Option.map_eq_some_iff.1 hm;rfl
   refine⟨fun hx=>?_,fun hx=>d.M_mono (fun k hk=>⟨⟨⟨hk.1.1,fun h2=>hx ?_⟩,hk.1.2⟩,hk.2⟩) hold⟩
   · have hmi:m=i.toNat:=by omega
     subst hmi;exact⟨rfl,d.K_len (d.K_of_M hM),d.K_one (d.K_of_M hM)⟩
   ·rw[<-hk.2];exact h2.2
open Classical in
theorem Ge(h:H d e w base ok v xs i I c){x':α}(hM:d.M w base okp x' c)(r:∀k,okp k->I k):S d e w base ok v (xs.set i.toNat x'):=by
 obtain⟨ho,f,h0,inner,y,hr⟩:=h;refine⟨fun k=>if I k then i.toNat else f k,fun k hk=>(h0 k hk).1,inner,by rw[List.length_zipIdx,List.length_set];rw[List.length_zipIdx]at y;exact y,by have:=hr.1;rw[List.length_zipIdx]at this;rw[List.length_zipIdx,List.length_set];exact this,fun m p hm=>?_⟩;rw[List.getElem?_zipIdx,Nat.zero_add]at hm;obtain⟨q,hq,rfl⟩:=Option.map_eq_some_iff.1 hm
 have C:m<xs.length:=by
  have:=(List.getElem?_eq_some_iff.1 hq).1
  rwa [List.length_set]at this
 by_cases hmi:m=i.toNat
 · subst hmi
   rw[List.getElem?_set_self C]at hq;injection hq with hq;subst hq;have hc:=((hr.2 i.toNat _ (lV (List.getElem?_eq_getElem C))).1 rfl).1;show d.M w base _ x' ((inner.drop (i.toNat*d.sz)).take d.sz);rw[show(inner.drop (i.toNat*d.sz)).take d.sz=c from hc];exact d.M_mono (fun k hk=>⟨⟨ho k (r k hk),fun he=>(h0 k he.symm).2 (r k hk)⟩,if_pos (r k hk)⟩) hM
 · rw[List.getElem?_set_ne (Ne.symm hmi)]at hq
   exact d.M_mono (fun k hk=>⟨⟨hk.1.1.1,hk.1.2⟩,(if_neg hk.1.1.2).trans hk.2⟩) ((hr.2 m (q,m) (lV hq)).2 hmi)
theorem uH(h:H d e w base ok v xs i I c):H d e w base ok v xs i (fun k=>I k\/ok k/\w.heap.size<=k) c:=by
 obtain⟨ho,f,h⟩:=h;exact⟨fun k hk=>hk.elim (ho k) (fun h2=>h2.1),f,ag (hU h) (fun k hk=>⟨hk.1.1,fun h2=>h2.elim hk.1.2 (fun h3=>by have:=hk.2.2.1;omega)⟩)⟩
theorem Ah(h:H d e w base ok v xs i I c)(hm:∀k,ok k->¬I k->k<w.heap.size->w1.heap[k]?=w.heap[k]?):H d e w1 base ok v xs i I c:=by
 obtain⟨ho,f,h⟩:=h;exact⟨ho,f,mQ h (fun k hk hlt=>hm k hk.1 hk.2 hlt)⟩
theorem uJ(h:H d e w base ok v xs i I c){row:Option Nat}(hg:w.grownBy w1 row)(f:∀k,row=some k->I k):H d e w1 base ok v xs i I c:=
 Ah h (fun k _ hn hlt=>hg.block k hlt (fun he=>hn (f k he.symm)))
theorem vR(h:H d e w base ok v xs i I c)(hb:Below w.heap.size w w1):H d e w1 base ok v xs i I c:=Ah h (fun k _ _ hlt=>hb.block k hlt)
theorem wo(h:H d e w base ok v xs i I c)(o:Obj):H d e (w.alloc o) base ok v xs i I c:=vR h (bK (Below.refl _ _) o)
theorem tG(h:H d e w base ok v xs i I c):H d e w.drew base ok v xs i I c:=vR h (ni (Below.refl _ _))
theorem ww(h:H d e w base ok v xs i I c)(m:Nat):H d e (w.drewN m) base ok v xs i I c:=vR h (cg (Below.refl _ _) m)
theorem H8(h:H d e w base ok v xs i I c)(r:∀k,ok k->ok' k):H d e w base ok' v xs i I c:=by
 obtain⟨ho,f,h⟩:=h;exact⟨fun k hk=>r k (ho k hk),f,ag h (fun k hk=>⟨r k hk.1,hk.2⟩)⟩
theorem Et{okg:Nat->Prop}(h:H d e w base (fun k=>ok k/\¬okg k) v xs i I c)(hg:∀k,okg k->ok k):H d e w base ok v xs i (fun k=>I k\/okg k) c:=by
 obtain⟨ho,f,h⟩:=h;exact⟨fun k hk=>hk.elim (fun h2=>(ho k h2).1) (hg k),f,ag h (fun k hk=>⟨hk.1.1,fun h2=>h2.elim hk.2 hk.1.2⟩)⟩
theorem uV(h:S d e W base ok (.slice (some ⟨g,0,none⟩) n G) xs)(z:α)(i:Int)(h0:0<=i)(h1:i<n):
 ∃(I:Nat->Prop) (c:List Value),c.length=d.sz/\d.M W base I (xs.getD i.toNat z) c/\(∀j u,c[j]?=some u->W.cell? ⟨g,i.toNat*d.sz+j,none⟩=some u)/\(∀j,W.frozen? ⟨g,i.toNat*d.sz+j,none⟩=false)/\(∀k,I k->ok k/\k≠g)/\H d e W base ok (.slice (some ⟨g,0,none⟩) n G) xs i I c:=by
 obtain⟨_,_,_,_,f⟩:=vk (l7 h) z i h0 h1;obtain⟨I,c,L,hM,t,l,hH⟩:=FG h z i h0 h1;exact⟨I,c,L,hM,t,f,l,hH⟩
theorem pG(h:H d e W base ok (.slice (some ⟨g,0,none⟩) n G) xs i I c)(h0:0<=i)(h1:i<n):
 ∃rows:List (List Value),rows.length=xs.length/\(mT d.sz).R e W base (fun _=>True) (.slice (some ⟨g,0,none⟩) n G) rows/\c.length=d.sz/\(∀u∈c,u.oneCell'=true)/\(∀j u,c[j]?=some u->W.cell? ⟨g,i.toNat*d.sz+j,none⟩=some u)/\
  ∀w1 c',W.grownBy w1 (some g)->(mT d.sz).R e w1 base (fun _=>True) (.slice (some ⟨g,0,none⟩) n G) (rows.set i.toNat c')->H d e w1 base ok (.slice (some ⟨g,0,none⟩) n G) xs i I c':=by
 obtain⟨z,f,hR⟩:=h;have hn:=(am hR).1;rw[List.length_zipIdx]at hn;have y:some g=(Value.slice (some ⟨g,0,none⟩) n G).ownBlock:=by simp[Value.ownBlock]
 obtain⟨x,inner,ho,hr⟩:=hR;have s:i.toNat<xs.length:=by omega
 have N:inner.length=xs.length*d.sz:=by have:=hr.1;rw[List.length_zipIdx]at this;exact this
 have t:∀k,some k≠(Value.slice (some ⟨g,0,none⟩) n G).ownBlock->k≠g:=fun k hk he=>hk (by rw[he];exact y)
 have hci:=(hr.2 i.toNat _ (lV (List.getElem?_eq_getElem s))).1 rfl;rw[hci.1]at hci;have hc:=((hr.2 i.toNat _ (lV (List.getElem?_eq_getElem s))).1 rfl).1;refine⟨(List.range xs.length).map fun j=>(inner.drop (j*d.sz)).take d.sz,by rw[List.length_map,List.length_range],⟨fun _ _=>trivial,inner,?_,?_,fun j p hj=>?_⟩,hci.2.1,hci.2.2,fun j u hu=>?_,fun w1 c' hg l=>?_⟩
 ·rw[List.length_map,List.length_range];rw[List.length_zipIdx]at ho;exact ho
 ·rw[List.length_map,List.length_range];exact N
 · rw[List.getElem?_map]at hj
   obtain⟨j',F,rfl⟩:=Option.map_eq_some_iff.1 hj;obtain⟨hl,he⟩:=List.getElem?_eq_some_iff.1 F;rw[List.getElem_range]at he;subst he;rw[List.length_range]at hl;have hm:=(gap f d i.toNat c).K_of_M (hr.2 j _ (lV (List.getElem?_eq_getElem hl)));exact⟨rfl,(gap f d i.toNat c).K_len hm,(gap f d i.toNat c).K_one hm⟩
 · rw[<-hc,List.getElem?_take]at hu
   split at hu
   · rw[List.getElem?_drop]at hu
     have:=ho.cells (g:=g) y.symm _ u hu
     rwa [add_plain]at this
   ·cases hu
 · obtain⟨_,r,O,A⟩:=l
   have L:r.length=xs.length*d.sz:=by have:=A.1;rw[List.length_set,List.length_map,List.length_range]at this;exact this
   rw[List.length_set,List.length_map,List.length_range]at O;refine⟨z,f,x,r,by rw[List.length_zipIdx];exact O,by rw[List.length_zipIdx];exact L,fun m p hm=>?_⟩;rw[List.getElem?_zipIdx,Nat.zero_add]at hm;obtain⟨q,hq,rfl⟩:=Option.map_eq_some_iff.1 hm;have C:m<xs.length:=(List.getElem?_eq_some_iff.1 hq).1;have hold:=hr.2 m (q,m) (lV hq);refine⟨fun hx=>?_,fun hx=>?_⟩
   · have T:m=i.toNat:=hx
     subst T;exact A.2 i.toNat c' (List.getElem?_set_self (by rw[List.length_map,List.length_range];exact C))
   · have T:m≠i.toNat:=hx
     have B:=(A.2 m ((inner.drop (m*d.sz)).take d.sz) (by
      rw[List.getElem?_set_ne (Ne.symm T),List.getElem?_map,List.getElem?_eq_getElem (by rw[List.length_range];exact C),List.getElem_range];rfl)).1
     show d.M w1 base _ q ((r.drop (m*d.sz)).take d.sz);rw[show(r.drop (m*d.sz)).take d.sz=_ from B];exact d.M_mono (fun k hk=>hk.1) (d.M_move (w1:=w1) (fun k hk=>hg.block k hk.2.2.1 (fun he=>t k hk.1.1.2 (by injection he))) (d.M_bound (hold.2 hx)))
theorem Eb(h:H d e W base ok (.slice (some ⟨g,0,none⟩) n G) xs i I c)(h0:0<=i)(h1:i<n){seg:List Value}{j:Nat}(hj:j+seg.length<=d.sz)(ac:∀q∈seg,q.oneCell'=true):
 H d e (W.setCells g (i.toNat*d.sz+j) seg) base ok (.slice (some ⟨g,0,none⟩) n G) xs i I (c.take j++seg++c.drop (j+seg.length))/\W.grownBy (W.setCells g (i.toNat*d.sz+j) seg) (some g):=by
 obtain⟨rows,_,l,L,f,t,k⟩:=pG h h0 h1
 obtain⟨h2,h3⟩:=EL l i h0 h1 (c:=c) (seg:=seg) (j:=j) (x':=c.take j++seg++c.drop (j+seg.length)) (okp:=fun _=>False) L t hj
  ⟨rfl,by
    show(c.take j++seg++c.drop (j+seg.length)).length=d.sz;simp only[List.length_append,List.length_take,List.length_drop];omega,fun u hu=>by
    rcases List.mem_append.1 hu with hu|hu
    · rcases List.mem_append.1 hu with hu|hu
      ·exact f u (List.mem_of_mem_take hu)
      ·exact ac u hu
    ·exact f u (List.mem_of_mem_drop hu)⟩ (fun _ hk=>hk.elim)
 exact⟨k _ _ h3 h2,h3⟩
theorem Gh{okg:Nat->Prop}(hH:H d e W base (fun k=>ok k/\¬okg k) (.slice (some ⟨g,0,none⟩) n G) xs i I c)(h0:0<=i)(h1:i<n){seg:List Value}{j:Nat}(hj:j+seg.length<=d.sz)
 {x':α} (hM:d.M W base okp x' (c.take j++seg++c.drop (j+seg.length))) (F:∀k,okp k->I k\/okg k) (hg:∀k,okg k->ok k/\k≠g):
 S d e (W.setCells g (i.toNat*d.sz+j) seg) base ok (.slice (some ⟨g,0,none⟩) n G) (xs.set i.toNat x')/\W.grownBy (W.setCells g (i.toNat*d.sz+j) seg) (some g):=by
 have B:∀k,I k\/okg k->k≠g:=by
  intro k hk he;subst he;rcases hk with hk|hk
  · obtain⟨_,f,hR⟩:=hH
    exact(hR.1 k (by simp[Value.ownBlock])).2 hk
  ·exact(hg k hk).2 rfl
 obtain⟨h2,h3⟩:=Eb (Et hH (fun k hk=>(hg k hk).1)) h0 h1 hj (fun q hq=>d.K_one (d.K_of_M hM) q (List.mem_append_left _ (List.mem_append_right _ hq)));exact⟨Ge h2 (wu hM (fun k hk hlt=>h3.block k hlt (fun he=>B k (F k hk) (by injection he)))) F,h3⟩
end
section
variable {P:Program} {D:Array Oper} {rest:List Oper} {o:Oper} {a:Act} {Q:Exit->Act->World->Prop} {α:Type}
end
end Kd
end Go.Proofs.YtlpbalebodlipaaW.PrintWords
