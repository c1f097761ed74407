/- A part of the proof of FnQuadTree. There are no conditions. -/
import Derived.Test.YtlpbalebodlipaaKQXWShare
import Derived.Test.YtlpbalebodlipaaKQXWApart
import Derived.Test.YtlpbalebodlipaaKQXWArr
namespace Go.Proofs.YtlpbalebodlipaaW.PrintWords
open Go.RowKit
namespace Kd
def chunks(sz:Nat)(n:Nat)(inner:List Value):List (List Value):=(List.range n).map fun j=>(inner.drop (j*sz)).take sz
theorem mm(sz n:Nat)(inner:List Value):(chunks sz n inner).length=n:=by simp[chunks]
theorem EE{sz n:Nat}{inner:List Value}{j:Nat}(hj:j<n):(chunks sz n inner)[j]?=some ((inner.drop (j*sz)).take sz):=by simp[chunks,hj]
theorem uE{sz n:Nat}{inner:List Value}{j:Nat}{c:List Value}(h:(chunks sz n inner)[j]?=some c):c=(inner.drop (j*sz)).take sz:=by
 have hj:j<n:=by have:=(List.getElem?_eq_some_iff.1 h).1;rwa [mm]at this
 rw[EE hj]at h;injection h with h;exact h.symm
theorem yN{α:Type}{Rr:α->List Value->Prop}{sz:Nat}{xs:List α}{inner:List Value}(h:aD Rr sz xs inner)(hR:∀x c,Rr x c->c.length=sz/\∀u∈c,u.oneCell'=true):aD (fun x cs=>cs=x/\cs.length=sz/\∀u∈cs,u.oneCell'=true) sz (chunks sz xs.length inner) inner:=by
 refine⟨by rw[mm];exact h.1,fun j p hj=>?_⟩;have k:j<xs.length:=by have:=(List.getElem?_eq_some_iff.1 hj).1;rwa [mm]at this
 have hp:=uE hj;exact⟨hp.symm,hR _ _ (h.2 j _ (List.getElem?_eq_getElem k))⟩
section
variable {α:Type} {d:Kd α} {e base n cc g:Nat} {ok ok' okp S:Nat->Prop} {w w1 W W1:World} {A:Option Addr} {u v v1:Value} {xs:List α} {x:α} {c:List Value}
def N{α:Type}(d:Kd α)(e:Nat)(w:World)(base:Nat)(ok:Nat->Prop)(v:Value)(xs:List α):Prop:=
 (∀k,v.ownBlock=some k->ok k)/\∃rows:List (List Value),rows.length=xs.length/\(mT d.sz).R e w base (fun k=>some k=v.ownBlock) v rows/\∀(j:Nat) (x:α) (c:List Value),xs[j]?=some x->rows[j]?=some c->FK d w (fun k=>ok k/\some k≠v.ownBlock) x c
theorem HI{sz:Nat}{rows:List (List Value)}(h:(mT sz).R e w base ok v rows):(mT sz).R e w base (fun k=>some k=v.ownBlock) v rows:=lN rfl h
theorem DT(h:d.R e w base ok v xs):N d e w base ok v xs:=by
 obtain⟨h0,inner,ho,hr⟩:=h;refine⟨h0,chunks d.sz xs.length inner,mm _ _ _,⟨fun k hk=>hk.symm,inner,by rw[mm];exact ho,yN hr (fun x c hp=>⟨d.K_len (d.K_of_M hp),d.K_one (d.K_of_M hp)⟩)⟩,fun j x c hx hc=>?_⟩;rw[uE hc];exact FY (hr.2 j x hx)
theorem jj(d:Kd α)(e:Nat)(w:World)(base:Nat)(ok:Nat->Prop):N d e w base ok (.slice none 0 0) []:=DT (gx _ _ _ _ _)
theorem El(h:N d e w base ok v xs)(r:∀k,ok k->ok' k):N d e w base ok' v xs:=by
 obtain⟨h0,rows,hl,hR,hf⟩:=h;exact⟨fun k hk=>r k (h0 k hk),rows,hl,hR,fun j x c hx hc=>wU (hf j x c hx hc) (fun k hk=>⟨r k hk.1,hk.2⟩)⟩
theorem Fv(h:N d e w base ok v xs):∀k,v.ownBlock=some k->k<w.heap.size:=by
 obtain⟨_,rows,_,hR,_⟩:=h;exact aj hR
theorem Fh(h:N d e w base ok v xs):∀k,v.ownBlock=some k->base<=k:=by
 obtain⟨_,rows,_,hR,_⟩:=h;exact ar hR
theorem Gw(h:N d e w base ok v xs):N d e w base (fun k=>ok k/\k<w.heap.size) v xs:=by
 have hlt:=Fv h;obtain⟨h0,rows,hl,hR,hf⟩:=h;exact⟨fun k hk=>⟨h0 k hk,hlt k hk⟩,rows,hl,hR,fun j x c hx hc=>wU (xq (hf j x c hx hc)) (fun k hk=>⟨⟨hk.1.1,hk.2⟩,hk.1.2⟩)⟩
theorem DL{base':Nat}(h:N d e w base ok v xs)(hb:base'<=base):N d e w base' ok v xs:=by
 obtain⟨h0,rows,hl,hR,hf⟩:=h;exact⟨h0,rows,hl,aH hR hb,hf⟩
theorem GE(h:N d e w base ok v xs)(hm:∀k,ok k->k<w.heap.size->w1.heap[k]?=w.heap[k]?):N d e w1 base ok v xs:=by
 obtain⟨h0,rows,hl,hR,hf⟩:=h;exact⟨h0,rows,hl,mQ hR (fun k hk hlt=>hm k (h0 k hk.symm) hlt),fun j x c hx hc=>yb (hf j x c hx hc) (fun k hk hlt=>hm k hk.1 hlt)⟩
theorem qz(h:N d e w base ok v xs)(hb:Below w.heap.size w w1):N d e w1 base ok v xs:=GE h (fun k _ hk=>hb.block k hk)
theorem H9(h:N d e w base ok v xs)(o:Obj):N d e (w.alloc o) base ok v xs:=qz h (bK (Below.refl _ _) o)
theorem Ii(h:N d e w base ok v xs):N d e w.drew base ok v xs:=qz h (ni (Below.refl _ _))
theorem FJ(h:N d e w base ok v xs)(m:Nat):N d e (w.drewN m) base ok v xs:=qz h (cg (Below.refl _ _) m)
theorem Fq(h:N d e W base ok v xs)(C:∀k,u.ownBlock=some k->W.heap.size<=k)(hb:Below W.heap.size W w1):N d e w1 base (fun k=>ok k/\some k≠u.ownBlock) v xs:=
 El (qz (Gw h) hb) (fun k hk=>⟨hk.1,fun he=>by have:=C k he.symm;have:=hk.2;omega⟩)
theorem EJ(h:N d e w base ok v xs):∃A c,v= .slice A xs.length c:=by
 obtain⟨_,rows,hl,hR,_⟩:=h;obtain⟨A,c,he⟩:=az hR;exact⟨A,c,by rw[he,hl]⟩
theorem zd{n c:Nat}(h:N d e w base ok (.slice A n c) xs):n=xs.length/\n<=c/\d.C w A xs.length xs:=by
 obtain⟨_,rows,hl,hR,hf⟩:=h;obtain⟨hn,hc,hC⟩:=am hR;refine⟨by omega,hc,?_⟩;rw[hl]at hC;refine⟨rfl,hC.2.1,fun hp=>?_⟩;obtain⟨ad,he,r⟩:=hC.2.2 hp;refine⟨ad,he,fun j p hj=>?_⟩;have k:j<rows.length:=by have:=(List.getElem?_eq_some_iff.1 hj).1;omega
 obtain⟨c',L,hK,t⟩:=r j _ (List.getElem?_eq_getElem k);have hk:=uY (hf j p _ hj (List.getElem?_eq_getElem k));refine⟨c',L,?_,t⟩;rw[show c'=rows[j]from hK.1];exact hk
end
end Kd
end Go.Proofs.YtlpbalebodlipaaW.PrintWords
