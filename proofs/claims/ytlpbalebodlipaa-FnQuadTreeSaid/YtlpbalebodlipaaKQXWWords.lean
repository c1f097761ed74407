/- A part of the proof of FnQuadTree. There are no conditions. -/
import Derived.Below
import Derived.Deep.Draws
import Derived.Deep.AppendLies
import Derived.Maps.AppendAt
import Derived.OwnWalk
import Derived.Laws.BytesArg
import Derived.Laws.MakeOwn
import Derived.Laws.OwnMore
import Derived.Deep.OwnRows
import Derived.Tactics
import Derived.Lib.ConvBytes
import Derived.Laws.Slices
import Derived.WalkKit
import Derived.KernelRfl
import Derived.RowKit3
import Derived.Deep.LoopGhost
import Derived.Deep.QuietTactic
import Derived.BigQuiet
import Derived.WideLaws
import Derived.Deep.DeepCutAuto
import Derived.Deep.CutBlock
import Derived.Deep.RegionHeld3
import Derived.Laws.Rows
import Derived.Lib.AppendStr
import Derived.ArgAppend
import Derived.Laws.IdiomCopy
import Derived.RowKit
set_option linter.unusedVariables false
set_option linter.unusedSimpArgs false
namespace Go.Proofs.YtlpbalebodlipaaW.PrintWords
open Go.RowKit
structure ae (p:Prop):Prop where mk::(out:p)
structure fV (w w':World):Prop where mk::(out:∃n,w'=w.drewN n)
theorem fV.refl(w:World):fV w w:=⟨⟨0,rfl⟩⟩
theorem fV.step{w w':World}(h:fV w w')(n:Nat):fV w (w'.drewN n):=by
 obtain⟨m,rfl⟩:=h;exact⟨⟨m+n,World.drewN_drewN ..⟩⟩
theorem fV.grown{w w':World}(h:fV w w'):Grown w w':=by
 obtain⟨n,rfl⟩:=h
 induction n with
 |zero=>exact Grown.refl _
 |succ n ih=>rw[<-World.drew_drewN];exact Grown.drew ih
theorem fV.below{w w':World}(h:fV w w'):Below w.heap.size w w':=by
 obtain⟨n,rfl⟩:=h
 induction n with
 |zero=>exact Below.refl _ _
 |succ n ih=>rw[<-World.drew_drewN];exact ih.drew
def rd(xs:List Int)(i:Int):Int:=xs.getD i.toNat 0
def bt(s:ByteArray)(i:Int):Int:=if h:i.toNat<s.size then((s[i.toNat]'h).toNat:Int)else 0
theorem kA(s:ByteArray)(i:Int):∀h:i.toNat<s.size,((s[i.toNat]'h).toNat:Int)=bt s i:=fun h=>by simp[bt,h]
theorem bK{w W:World}(h:Below w.heap.size w W)(o:Obj):Below w.heap.size w (W.alloc o):=h.alloc h.size o
theorem ni{B:Nat}{w W:World}(h:Below B w W):Below B w W.drew:=⟨h.os,h.tape,h.output,h.size,h.block⟩
theorem cg{B:Nat}{w W:World}(h:Below B w W)(n:Nat):Below B w (W.drewN n):=⟨h.os,h.tape,h.output,h.size,h.block⟩
theorem HJ{B:Nat}{w w1 w2:World}(h:Below B w w1)(hB:B<=w1.heap.size)(k:Below w1.heap.size w1 w2):Below B w w2:=
 h.trans ⟨k.os,k.tape,k.output,k.size,fun i hi=>k.block i (Nat.lt_of_lt_of_le hi hB)⟩
theorem Dz{w w1:World}(h:Below w.heap.size w w1)(row:Option Nat):w.grownBy w1 row:=⟨h.os,h.tape,h.output,h.size,fun i hi _=>h.block i hi⟩
theorem oD{w w1:World}(h:Below w.heap.size w w1){a:Addr}{v:Value}(hc:w.cell? a=some v):w1.cell? a=some v:=(h.cell (World.block_lt_of_cell? w a hc)).trans hc
theorem add_plain(g j:Nat):(⟨g,0,none⟩:Addr).add j=⟨g,j,none⟩:=by unfold Addr.add;split<;>simp_all
def eT(w:World)(k:IntKind)(A:Option Addr)(n:Nat)(xs:List Int):Prop:=
 xs.length=n/\n<=9223372036854775807/\(0<n->∃ad,A=some ad/\∀j,j<n->w.cell? (ad.add j)=some (.int k (xs.getD j 0)))
theorem eT.at_{w:World}{k:IntKind}{A:Option Addr}{n:Nat}{xs:List Int}(h:eT w k A n xs)(i:Int)(h0:0<=i)(h1:i<n):∃ad,A=some ad/\w.cell? (ad.add i.toNat)=some (.int k (rd xs i)):=by
 obtain⟨ad,e,hc⟩:=h.2.2 (by omega);exact⟨ad,e,hc _ (by omega)⟩
theorem eT.below{w w1:World}{k:IntKind}{A:Option Addr}{n:Nat}{xs:List Int}(h:eT w k A n xs)(hb:Below w.heap.size w w1):eT w1 k A n xs:=
 ⟨h.1,h.2.1,fun hn=>by
   obtain⟨ad,e,hc⟩:=h.2.2 hn;exact⟨ad,e,fun j hj=>oD hb (hc j hj)⟩⟩
theorem En(W:World)(base:Nat)(e:TypeId)(size:Nat):W.ownsRow base e size (.slice none 0 0) 0 []:=⟨by simp,.inl ⟨rfl,rfl⟩⟩
theorem o5{w:World}{base:Nat}{e:TypeId}{size n:Nat}{v:Value}{xs:List Value}(h:w.ownsRow base e size v n xs)(k:Nat)(hk:v.ownBlock=some k):base<=k:=by
 rcases h.2 with⟨rfl,_⟩|⟨g,G,l,rfl,hb,_⟩
 ·simp[Value.ownBlock]at hk
 · have:g=k:=by simpa [Value.ownBlock]using hk
   omega
theorem zR{w:World}{base:Nat}{e:TypeId}{size n:Nat}{v:Value}{xs:List Value}(h:w.ownsRow base e size v n xs)(k:Nat)(hk:v.ownBlock=some k):k<w.heap.size:=by
 rcases h.2 with⟨rfl,_⟩|⟨g,G,l,rfl,hb,hh,_⟩
 ·simp[Value.ownBlock]at hk
 · have:g=k:=by simpa [Value.ownBlock]using hk
   subst this;exact(Array.getElem?_eq_some_iff.1 hh).1
theorem GH{w w1:World}{base:Nat}{e:TypeId}{size n:Nat}{v:Value}{xs:List Value}(h:w.ownsRow base e size v n xs)(hb:Below w.heap.size w w1):w1.ownsRow base e size v n xs:=
 h.kept (Dz hb none) (by cases v.ownBlock<;>simp)
theorem DR{w:World}{base n:Nat}{e:TypeId}{size:Nat}{v:Value}{xs:List Value}(h:w.ownsRow base e size v n xs):∃A c,v= .slice A n c:=by
 rcases h.2 with⟨rfl,rfl⟩|⟨g,G,l,rfl,_⟩
 ·exact⟨none,0,rfl⟩
 ·exact⟨_,G,rfl⟩
def bytesOf(s:ByteArray):List Int:=s.data.toList.map fun b=>(b.toNat:Int)
theorem eT.pC{w:World}{k:IntKind}{A:Option Addr}{n:Nat}{xs:List Int}(h:eT w k A n xs)(i:Nat)(hi:i<=n):eT w k A i (xs.take i):=by
 refine⟨by rw[List.length_take,h.1];omega,by have:=h.2.1;omega,fun hp=>?_⟩;obtain⟨ad,e,hc⟩:=h.2.2 (by omega);refine⟨ad,e,fun j hj=>?_⟩;rw[hc j (by omega)];simp[List.getD_eq_getElem?_getD,hj]
def bo{α:Type}(a b:Option α):Prop:=∀r,a=some r->b=some r
theorem bo.refl{α:Type}(a:Option α):bo a a:=fun _ h=>h
theorem bo.none{α:Type}(b:Option α):bo Option.none b:=fun _ h=>by cases h
theorem bo.trans{α:Type}{a b c:Option α}(h:bo a b)(k:bo b c):bo a c:=fun r hr=>k r (h r hr)
theorem bo.ite{α:Type}{c:Prop}[Decidable c]{a a' b b':Option α}(h:bo a a')(k:bo b b'):bo (if c then a else b) (if c then a' else b'):=by
 split
 ·exact h
 ·exact k
theorem bo.bind{α β:Type}{a a':Option α}{f f':α->Option β}(h:bo a a')(k:∀x,bo (f x) (f' x)):bo (a.bind f) (a'.bind f'):=by
 intro r hr;obtain⟨x,hx,hf⟩:=Option.bind_eq_some_iff.1 hr;exact Option.bind_eq_some_iff.2 ⟨x,h x hx,k x r hf⟩
theorem bo.map{α β:Type}{a a':Option α}(f:α->β)(h:bo a a'):bo (a.map f) (a'.map f):=by
 intro r hr;obtain⟨x,hx,hf⟩:=Option.map_eq_some_iff.1 hr;exact Option.map_eq_some_iff.2 ⟨x,h x hx,hf⟩
theorem Ca{α:Type}{g:Nat->Option α}(h:∀k,bo (g k) (g (k+1)))(k:Nat):∀j,bo (g k) (g (k+j))
 |0=>bo.refl _
 |j+1=>(Ca h k j).trans (h (k+j))
theorem Fs{α:Type}{g:Nat->Option α}(h:∀k,bo (g k) (g (k+1))){k k':Nat}(hk:k<=k'){r:α}(hr:g k=some r):g k'=some r:=by
 have:=Ca h k (k'-k) r hr
 rwa [Nat.add_sub_cancel' hk]at this
def aD{α:Type}(R:α->List Value->Prop)(size:Nat)(ps:List α)(cs:List Value):Prop:=
 cs.length=ps.length*size/\∀j p,ps[j]?=some p->R p ((cs.drop (j*size)).take size)
theorem aD.none{α:Type}(R:α->List Value->Prop)(size:Nat):aD R size [] []:=⟨by simp,fun j p h=>by simp at h⟩
theorem aD.snoc{α:Type}{R:α->List Value->Prop}{size:Nat}{ps:List α}{cs c:List Value}{p:α}(h:aD R size ps cs)(hp:R p c)(hc:c.length=size):aD R size (ps++[p]) (cs++c):=by
 refine⟨by rw[List.length_append,h.1,hc,List.length_append,List.length_singleton,Nat.add_mul,Nat.one_mul],fun j q hq=>?_⟩;rcases Nat.lt_or_ge j ps.length with hj|hj
 · rw[List.getElem?_append_left hj]at hq
   have h1:j*size+size<=cs.length:=by rw[h.1,<-Nat.succ_mul];exact Nat.mul_le_mul_right _ hj
   have h2:=h.2 j q hq;rw[List.drop_append_of_le_length (by omega),List.take_append_of_le_length (by rw[List.length_drop];omega)];exact h2
 · have F:j=ps.length:=by
    have:=(List.getElem?_eq_some_iff.1 hq).1;rw[List.length_append,List.length_singleton]at this;omega
   subst F;have hq':p=q:=by simpa using hq
   subst hq';rw[<-h.1,List.drop_left,<-hc,List.take_length];exact hp
theorem aD.dW{α:Type}{R R':α->List Value->Prop}{size:Nat}{ps:List α}{cs:List Value}(h:aD R size ps cs)(hR:∀p c,R p c->R' p c):aD R' size ps cs:=⟨h.1,fun j p hj=>hR _ _ (h.2 j p hj)⟩
def iC{α:Type}(R:α->List Value->Prop)(size:Nat)(w:World)(A:Option Addr)(n:Nat)(ps:List α):Prop:=
 ps.length=n/\n<=9223372036854775807/\(0<n->∃ad,A=some ad/\∀j p,ps[j]?=some p->∃c,c.length=size/\R p c/\∀i u,c[i]?=some u->w.cell? (ad.add (j*size+i))=some u)
theorem iC.Ih{α:Type}{R:α->List Value->Prop}{size:Nat}{w:World}{A:Option Addr}{n:Nat}{ps:List α}(h:iC R size w A n ps)(d:α)(i:Int)(h0:0<=i)(h1:i<n):
 ∃ad c,A=some ad/\c.length=size/\R (ps.getD i.toNat d) c/\∀j u,c[j]?=some u->w.cell? (ad.add (i.toNat*size+j))=some u:=by
 obtain⟨ad,e,hc⟩:=h.2.2 (by omega);have hl:i.toNat<ps.length:=by have:=h.1;omega
 obtain⟨c,hs,hr,r⟩:=hc i.toNat _ (List.getElem?_eq_getElem hl);refine⟨ad,c,e,hs,?_,r⟩;rw[List.getD_eq_getElem?_getD,List.getElem?_eq_getElem hl];exact hr
theorem iC.dW{α:Type}{R R':α->List Value->Prop}{size:Nat}{w w1:World}{A:Option Addr}{n:Nat}{ps:List α}(h:iC R size w A n ps)(hb:Below w.heap.size w w1)(hR:∀p c,R p c->R' p c):iC R' size w1 A n ps:=
 ⟨h.1,h.2.1,fun hn=>by
   obtain⟨ad,e,hc⟩:=h.2.2 hn;refine⟨ad,e,fun j p hj=>?_⟩;obtain⟨c,hs,hr,r⟩:=hc j p hj;exact⟨c,hs,hR _ _ hr,fun i u hu=>oD hb (r i u hu)⟩⟩
theorem Hl{α:Type}{R:α->List Value->Prop}{w:World}{base n size:Nat}{e:TypeId}{v:Value}{ps:List α}{cs:List Value}(h:w.ownsRow base e size v n cs)(hR:aD R size ps cs)(hn:ps.length=n):
 ∃A c,v= .slice A n c/\iC R size w A n ps:=by
 rcases Nat.eq_zero_or_pos n with h0|h0
 · rcases h.2 with⟨rfl,rfl⟩|⟨g,G,l,rfl,_⟩
   ·exact⟨none,0,rfl,hn,by omega,fun hp=>absurd hp (by omega)⟩
   ·exact⟨_,G,rfl,hn,by omega,fun hp=>absurd hp (by omega)⟩
 · obtain⟨g,G,rfl,_,_⟩:=h.form h0
   have hm:n<=9223372036854775807:=by
    rcases h.2 with⟨_,h1⟩|⟨g',S,l,he,_,_,h1,h2,_⟩
    ·omega
    · simp only[maxLen]at h2
      omega
   refine⟨_,G,rfl,hn,hm,fun _=>⟨_,rfl,fun j p hj=>⟨(cs.drop (j*size)).take size,?_,hR.2 j p hj,fun i u hu=>?_⟩⟩⟩
   · have k:=(List.getElem?_eq_some_iff.1 hj).1
     have h1:j*size+size<=cs.length:=by rw[hR.1,<-Nat.succ_mul];exact Nat.mul_le_mul_right _ k
     rw[List.length_take,List.length_drop];omega
   · refine h.cells (g:=g) rfl _ u ?_
     rw[List.getElem?_take]at hu;split at hu
     · rw[List.getElem?_drop]at hu
       exact hu
     ·cases hu
section
variable {P:Program} {D:Array Oper} {rest:List Oper} {o:Oper} {a:Act} {Q:Exit->Act->World->Prop}
theorem xN{w0 W:World}(base:Nat)(db:o.guard=none)(s x:Operand)(t e:TypeId)(z:Value)(size bytes:Nat)
 (ho:o.op= .call {callee:=.builtin .append,args:=#[s,x],argTypes:=#[t,t]})
 (ht:P.underlying t=some (.slice e))(J:(P.info? e).map (fun i=>(i.zero,i.size,i.bytes))=some (some z,size,bytes))(hz:z.cells.size=size)(j:0<size)(O:0<bytes)
 (v:Value)(n:Nat)(xs ys:List Value)(hs:a.eval s=v)(hx:a.eval x= .slice (some ⟨W.heap.size,0,none⟩) 1 1)(f:ys.length=size)(h1:∀u∈ys,u.oneCell'=true)
 (HO:W.ownsRow base e size v n xs)(HB:Below base w0 W)(C:base<=W.heap.size)(hl:(n+1)*bytes<=140737488355328)
 (h:∀v1 w1,w1.ownsRow base e size v1 (n+1) (xs++ys)->Below base w0 w1->W.grownBy w1 v.ownBlock->(v1.ownBlock=v.ownBlock\/∃b,v1.ownBlock=some b/\W.heap.size<=b)->wpList P D Q rest (a.put o.dst v1) w1):
 wpList P D Q (o::rest) a (W.alloc (.cells ys.toArray e)):=by
 obtain⟨i0,hi,S⟩:=Option.map_eq_some_iff.1 J;simp only[Prod.mk.injEq]at S;obtain⟨I,U,V⟩:=S;have N:n+1<=140737488355328:=Nat.le_trans (Nat.le_mul_of_pos_right _ O) hl
 refine wpList_append_own_at (W.alloc (.cells ys.toArray e)) db s x t ho base e i0 z size bytes ht hi I U V hz j v n xs hs (HO.alloc _) ⟨W.heap.size,0,none⟩ 1 1 ys hx (by rw[f];simp)
  (by simpa using World.news_of_block (cs:=ys.toArray) (t:=e) (fr:=(0,0)) (heap_alloc_new W (.cells ys.toArray e))) h1 (by simp only[maxLen];omega) hl (by simp;omega) ?_
 intro v1 w1 y hg _ hat;refine h v1 w1 y ((HB.alloc C _).grown hg (by simp;omega) (o5 HO)) (World.grownBy.trans (World.grownBy_alloc W _ _) hg) ?_;rcases hat with hat|hat
 ·exact .inl hat
 ·exact .inr ⟨_,hat,by simp⟩
end
theorem kT{w:World}{base:Nat}{e t:TypeId}{size n g:Nat}{v:Value}{xs:List Value}{cs:Array Value}(h:w.ownsRow base e size v n xs)(hg:w.heap[g]?=some (.cells cs t (0,0)))(B:e≠t):some g≠v.ownBlock:=by
 rcases h.2 with⟨rfl,_⟩|⟨g',G,l,rfl,_,hh,_⟩
 ·simp[Value.ownBlock]
 · intro he
   have:g=g':=by simpa [Value.ownBlock]using he
   subst this;rw[hg]at hh;injection hh with hh;injection hh with _ ht;exact B ht.symm
theorem Hj{w:World}{base:Nat}{e:TypeId}{size n:Nat}{v:Value}{xs:List Value}(h:w.ownsRow base e size v n xs){p:Addr}(B:some p.block≠v.ownBlock)(u:Value):(w.setCell p u).ownsRow base e size v n xs:=by
 obtain⟨h1,h2⟩:=h;refine⟨h1,?_⟩;rcases h2 with h2|⟨g,G,l,rfl,hg,hh,r⟩
 ·exact .inl h2
 ·exact .inr ⟨g,G,l,rfl,hg,by rw[Below.heap_setCell _ _ _ _ (fun e=>B (by rw[e];rfl))];exact hh,r⟩
theorem si{w:World}{g:Nat}{t:TypeId}{cs:Array Value}(h:w.heap[g]?=some (.cells cs t (0,0)))(i:Nat)(u:Value):(w.setCell ⟨g,i,none⟩ u).heap[g]?=some (.cells (cs.setIfInBounds i u) t (0,0)):=by
 simp[World.setCell,Array.getElem?_modify,h]
theorem bq{w:World}{g:Nat}{t:TypeId}{cs:Array Value}(h:w.heap[g]?=some (.cells cs t (0,0))){p:Addr}(hp:g≠p.block)(u:Value):(w.setCell p u).heap[g]?=some (.cells cs t (0,0)):=(Below.heap_setCell w p u g hp).trans h
theorem lL{w:World}{g:Nat}{o:Obj}(h:w.heap[g]?=some o):g<w.heap.size:=(Array.getElem?_eq_some_iff.1 h).1
theorem ap{w:World}{g:Nat}{t:TypeId}{cs:Array Value}(h:w.heap[g]?=some (.cells cs t (0,0)))(i:Nat):w.cell? ⟨g,i,none⟩=cs[i]?:=cell_of_row w g i cs t (0,0) h
theorem dC{w:World}{g:Nat}{t:TypeId}{cs:Array Value}(h:w.heap[g]?=some (.cells cs t (0,0)))(i:Nat):w.frozen? ⟨g,i,none⟩=false:=by simp[World.frozen?,h]
theorem Cz{w w1:World}{g:Nat}{o:Obj}{row:Option Nat}(h:w.heap[g]?=some o)(hg:w.grownBy w1 row)(B:some g≠row):w1.heap[g]?=some o:=(hg.block g (lL h) B).trans h
def aG(w w':World)(g:Nat)(row:Option Nat):Prop:=w.heap.size<=w'.heap.size/\∀i,i<w.heap.size->i≠g->some i≠row->w'.heap[i]?=w.heap[i]?
theorem aG.refl(w:World)(g:Nat)(row:Option Nat):aG w w g row:=⟨Nat.le_refl _,fun _ _ _ _=>rfl⟩
theorem aG.kx{w w1:World}{row:Option Nat}(h:w.grownBy w1 row)(g:Nat):aG w w1 g row:=⟨h.size,fun i hi _ hr=>h.block i hi hr⟩
theorem aG.of_below{w w1:World}(h:Below w.heap.size w w1)(g:Nat)(row:Option Nat):aG w w1 g row:=⟨h.size,fun i hi _ _=>h.block i hi⟩
theorem aG.eZ{w w1:World}{g:Nat}{row:Option Nat}(h:aG w w1 g row)(j:Nat)(u:Value):aG w (w1.setCell ⟨g,j,none⟩ u) g row:=
 ⟨by simpa [World.setCell]using h.1,fun i hi hg hr=>(Below.heap_setCell w1 ⟨g,j,none⟩ u i hg).trans (h.2 i hi hg hr)⟩
theorem aG.trans{w w1 w2:World}{g:Nat}{row f:Option Nat}(h:aG w w1 g row)(k:aG w1 w2 g f)(hr:f=row\/∃b,f=some b/\w.heap.size<=b):aG w w2 g row:=
 ⟨Nat.le_trans h.1 k.1,fun i hi hg hn=>by
   refine(k.2 i (Nat.lt_of_lt_of_le hi h.1) hg ?_).trans (h.2 i hi hg hn);rcases hr with rfl|⟨b,rfl,hb⟩
   ·exact hn
   · intro e
     injection e with e;omega⟩
theorem aG.blk{w w1:World}{g g':Nat}{row:Option Nat}{o:Obj}(h:aG w w1 g row)(hb:w.heap[g']?=some o)(hg:g'≠g)(hr:some g'≠row):w1.heap[g']?=some o:=(h.2 g' (lL hb) hg hr).trans hb
theorem aG.own{w w1:World}{g:Nat}{row:Option Nat}{base:Nat}{e:TypeId}{size n:Nat}{v:Value}{xs:List Value}(h:aG w w1 g row)(ho:w.ownsRow base e size v n xs)(hg:v.ownBlock≠some g)(hr:v.ownBlock=none\/v.ownBlock≠row):w1.ownsRow base e size v n xs:=by
 obtain⟨h1,h2⟩:=ho;refine⟨h1,?_⟩;rcases h2 with h2|⟨b,G,l,rfl,hb,hh,r⟩
 ·exact .inl h2
 · refine .inr ⟨b,G,l,rfl,hb,h.blk hh ?_ ?_,r⟩
   · intro e
     exact hg (by rw[<-e];rfl)
   · rcases hr with hr|hr
     ·simp[Value.ownBlock]at hr
     ·exact hr
def Ev{α:Type}(g:Nat->Option α)(r:α):Prop:=∃K,∀k,K<=k->g k=some r
theorem Ev.of{α:Type}{g:Nat->Option α}{r:α}(hg:∀k,bo (g k) (g (k+1))){k:Nat}(h:g k=some r):Ev g r:=⟨k,fun _ hk=>Fs hg hk h⟩
theorem Ev.now{α:Type}(r:α):Ev (fun _=>some r) r:=⟨0,fun _ _=>rfl⟩
theorem Ev.rounds{α:Type}{g:Nat->Option α}{r:α}(h:Ev g r):∃k,g k=some r:=by
 obtain⟨K,h⟩:=h;exact⟨K,h K (Nat.le_refl _)⟩
theorem Ev.bind{α β:Type}{g:Nat->Option α}{f:Nat->α->Option β}{a:α}{r:β}(h:Ev g a)(k:Ev (fun n=>f n a) r):Ev (fun n=>(g n).bind (f n)) r:=by
 obtain⟨K,h⟩:=h;obtain⟨K',k⟩:=k;refine⟨max K K',fun n hn=>?_⟩;have h1:=h n (by omega);have h2:=k n (by omega);simp only[h1,Option.bind_some];exact h2
theorem Ev.step{α:Type}{g f:Nat->Option α}{r:α}(h:∀k,g (k+1)=f k)(k:Ev f r):Ev g r:=by
 obtain⟨K,k⟩:=k;refine⟨K+1,fun n hn=>?_⟩;obtain⟨m,rfl⟩:∃m,n=m+1:=⟨n-1,by omega⟩;rw[h];exact k m (by omega)
theorem Ev.congr{α:Type}{g f:Nat->Option α}{r:α}(h:∀k,g k=f k)(k:Ev f r):Ev g r:=by
 obtain⟨K,k⟩:=k;exact⟨K,fun n hn=>(h n).trans (k n hn)⟩
section
variable {P:Program} {D:Array Oper} {o:Oper} {a:Act} {Q:Exit->Act->World->Prop} {K:Act->World->Prop}
theorem IC{w0 W:World}(base:Nat)(hw:Region.wanted o (yielded D a.tmps)=true)(s x:Operand)(t e:TypeId)(z:Value)(size bytes:Nat)
 (ho:o.op= .call {callee:=.builtin .append,args:=#[s,x],argTypes:=#[t,t]})
 (ht:P.underlying t=some (.slice e))(J:(P.info? e).map (fun i=>(i.zero,i.size,i.bytes))=some (some z,size,bytes))(hz:z.cells.size=size)(j:0<size)(O:0<bytes)
 (v:Value)(n:Nat)(xs ys:List Value)(hs:a.eval s=v)(hx:a.eval x= .slice (some ⟨W.heap.size,0,none⟩) 1 1)(f:ys.length=size)(h1:∀u∈ys,u.oneCell'=true)
 (HO:W.ownsRow base e size v n xs)(HB:Below base w0 W)(C:base<=W.heap.size)(hl:(n+1)*bytes<=140737488355328)
 (h:∀v1 w1,w1.ownsRow base e size v1 (n+1) (xs++ys)->Below base w0 w1->W.grownBy w1 v.ownBlock->(v1.ownBlock=v.ownBlock\/∃b,v1.ownBlock=some b/\W.heap.size<=b)->K (a.put o.dst v1) w1):
 if Region.wanted o (yielded D a.tmps)=true then Oper.wp P o a (W.alloc (.cells ys.toArray e)) K Q else K (a.put o.dst undef) (W.alloc (.cells ys.toArray e)):=by
 obtain⟨i0,hi,S⟩:=Option.map_eq_some_iff.1 J;simp only[Prod.mk.injEq]at S;obtain⟨I,U,V⟩:=S;have N:n+1<=140737488355328:=Nat.le_trans (Nat.le_mul_of_pos_right _ O) hl;rw[if_pos hw]
 obtain⟨v1,w1,hr,y,hg,_,hat⟩:=run_append_own_at (P:=P) (W.alloc (.cells ys.toArray e)) base t o.type e i0 z size bytes ht hi I U V hz j v n xs (HO.alloc _) ⟨W.heap.size,0,none⟩ 1 1 ys (by rw[f];simp)
  (by simpa using World.news_of_block (cs:=ys.toArray) (t:=e) (fr:=(0,0)) (heap_alloc_new W (.cells ys.toArray e))) h1 (by simp only[maxLen];omega) hl (by simp;omega)
 unfold Oper.wp execOp;simp only[ho,resolve,invoke,builtin,Sem.run_bind,Sem.run_pure,Result.andThen_ok,List.map_toArray,List.map_cons,List.map_nil,hs,hx,hr];refine h v1 w1 y ((HB.alloc C _).grown hg (by simp;omega) (o5 HO)) (World.grownBy.trans (World.grownBy_alloc W _ _) hg) ?_;rcases hat with hat|hat
 ·exact .inl hat
 ·exact .inr ⟨_,hat,by simp⟩
end
theorem FV{w:World}{base base':Nat}{e:TypeId}{size n:Nat}{v:Value}{xs:List Value}(h:w.ownsRow base e size v n xs)(hb:base'<=base):w.ownsRow base' e size v n xs:=by
 obtain⟨h1,h2⟩:=h;refine⟨h1,?_⟩;rcases h2 with h2|⟨g,G,l,rfl,hg,r⟩
 ·exact .inl h2
 ·exact .inr ⟨g,G,l,rfl,Nat.le_trans hb hg,r⟩
section
variable {α:Type} {enc:α->Value} {d:α}
def encs(enc:α->Value)(xs:List α):List Value:=xs.map enc
def cP(d:α)(xs:List α)(i:Int):α:=xs.getD i.toNat d
theorem yF(xs:List α):(encs enc xs).length=xs.length:=by simp[encs]
theorem Gj(xs:List α)(j:Nat)(h:j<xs.length):(encs enc xs)[j]?=some (enc (xs.getD j d)):=by
 simp[encs,List.getElem?_eq_getElem h,List.getD_eq_getElem?_getD]
def eL(enc:α->Value)(d:α)(w:World)(A:Option Addr)(n:Nat)(xs:List α):Prop:=
 xs.length=n/\n<=9223372036854775807/\(0<n->∃ad,A=some ad/\∀j,j<n->w.cell? (ad.add j)=some (enc (xs.getD j d)))
theorem eL.at_{w:World}{A:Option Addr}{n:Nat}{xs:List α}(h:eL enc d w A n xs)(i:Int)(h0:0<=i)(h1:i<n):∃ad,A=some ad/\w.cell? (ad.add i.toNat)=some (enc (cP d xs i)):=by
 obtain⟨ad,e,hc⟩:=h.2.2 (by omega);exact⟨ad,e,hc _ (by omega)⟩
theorem eL.below{w w1:World}{A:Option Addr}{n:Nat}{xs:List α}(h:eL enc d w A n xs)(hb:Below w.heap.size w w1):eL enc d w1 A n xs:=
 ⟨h.1,h.2.1,fun hn=>by
   obtain⟨ad,e,hc⟩:=h.2.2 hn;exact⟨ad,e,fun j hj=>oD hb (hc j hj)⟩⟩
theorem eL.pC{w:World}{A:Option Addr}{n:Nat}{xs:List α}(h:eL enc d w A n xs)(i:Nat)(hi:i<=n):eL enc d w A i (xs.take i):=by
 refine⟨by rw[List.length_take,h.1];omega,by have:=h.2.1;omega,fun hp=>?_⟩;obtain⟨ad,e,hc⟩:=h.2.2 (by omega);refine⟨ad,e,fun j hj=>?_⟩;rw[hc j (by omega)];simp[List.getD_eq_getElem?_getD,hj]
theorem DY{W:World}{base g n G:Nat}{e:TypeId}{xs:List α}(h:W.ownsRow base e 1 (.slice (some ⟨g,0,none⟩) n G) n (encs enc xs))(i:Int)(h0:0<=i)(h1:i<n):
 W.cell? ⟨g,i.toNat,none⟩=some (enc (cP d xs i))/\W.frozen? ⟨g,i.toNat,none⟩=false:=by
 have hl:xs.length=n:=by have:=h.1;simp[encs]at this;exact this
 constructor
 · have hc:=h.cells (g:=g) rfl i.toNat _ (Gj (d:=d) xs i.toNat (by omega))
   rwa [add_plain]at hc
 · rcases h.2 with⟨h',_⟩|⟨g',S,l,h',_,hh,_⟩
   ·cases h'
   · have:g=g':=by injection h' with h';injection h' with h';injection h' with h'
     subst this;simp[World.frozen?,hh]
theorem Hh{W:World}{base g n G:Nat}{e:TypeId}{xs:List α}(h:W.ownsRow base e 1 (.slice (some ⟨g,0,none⟩) n G) n (encs enc xs))(i:Int)(x:α):
 (W.setCell ⟨g,i.toNat,none⟩ (enc x)).ownsRow base e 1 (.slice (some ⟨g,0,none⟩) n G) n (encs enc (xs.set i.toNat x))/\W.grownBy (W.setCell ⟨g,i.toNat,none⟩ (enc x)) (some g):=by
 have hs:=h.stored i.toNat (enc x);have he:(encs enc xs).set i.toNat (enc x)=encs enc (xs.set i.toNat x):=by simp[encs,List.map_set]
 rwa [he]at hs
end
theorem iU{w:World}{g:Nat}{o:Obj}(h:w.heap[g]?=some o)(o':Obj):(w.alloc o').heap[g]?=some o:=(Below.heap_alloc w o' g (lL h)).trans h
theorem bC{w:World}{g:Nat}{o:Obj}(h:w.heap[g]?=some o):w.drew.heap[g]?=some o:=h
theorem wW{w:World}{g:Nat}{o:Obj}(h:w.heap[g]?=some o)(n:Nat):(w.drewN n).heap[g]?=some o:=h
theorem eU{w w1:World}{g:Nat}{o:Obj}(h:w.heap[g]?=some o)(hb:Below w.heap.size w w1):w1.heap[g]?=some o:=(hb.block g (lL h)).trans h
theorem uj(w:World)(o:Obj):(w.alloc o).heap[w.heap.size]?=some o:=heap_alloc_new w o
section
variable {P:Program}
theorem kN{fn:Func}{p u:Tmp}{ty:TypeId}(h:fn.results= #[.cell p ty,.tmp u])(tmps:Array Value)(w:World)(g:Nat)(t:TypeId)(cs:Array Value)(fr:Nat×Nat)(d:TypeDesc)
 (hp:tmps.getD p undef= .pointer (some ⟨g,0,none⟩))(hg:w.heap[g]?=some (.cells cs t fr))
 (hu:P.underlying ty=some d)(hd:(match d with|.struct _|.array _ _=>true|_=>false)=true)(hi:(P.info? ty).map (·.size)=some cs.size):
 (results fn tmps).run P w= .ok (.tuple #[.agg cs,tmps.getD u undef]) w:=by
 have hp':tmps[p]?.getD undef= .pointer (some ⟨g,0,none⟩):=by simpa using hp
 simp[results,h,hp',asAddr,run_loadVar_row w g t ty cs fr d hg hu hd hi]
theorem qj{fn:Func}{p u v:Tmp}{ty:TypeId}(h:fn.results= #[.cell p ty,.tmp u,.tmp v])(tmps:Array Value)(w:World)(g:Nat)(t:TypeId)(cs:Array Value)(fr:Nat×Nat)(d:TypeDesc)
 (hp:tmps.getD p undef= .pointer (some ⟨g,0,none⟩))(hg:w.heap[g]?=some (.cells cs t fr))
 (hu:P.underlying ty=some d)(hd:(match d with|.struct _|.array _ _=>true|_=>false)=true)(hi:(P.info? ty).map (·.size)=some cs.size):
 (results fn tmps).run P w= .ok (.tuple #[.agg cs,tmps.getD u undef,tmps.getD v undef]) w:=by
 have hp':tmps[p]?.getD undef= .pointer (some ⟨g,0,none⟩):=by simpa using hp
 simp[results,h,hp',asAddr,run_loadVar_row w g t ty cs fr d hg hu hd hi]
end
theorem Er{w:World}{base n m c size:Nat}{e:TypeId}{A:Option Addr}{xs:List Value}(h:w.ownsRow base e size (.slice A m c) n xs):m<=c:=by
 rcases h.2 with⟨he,_⟩|⟨g,G,l,he,_,_,f,_⟩
 · injection he with _ h2 h3
   omega
 · injection he with _ h2 h3
   omega
def ee{α:Type}(R:α->List Value->Prop)(e:TypeId)(size:Nat)(w:World)(base:Nat)(v:Value)(ps:List α):Prop:=
 ∃inner,w.ownsRow base e size v ps.length inner/\aD R size ps inner
section
variable {α:Type} {R R':α->List Value->Prop} {e:TypeId} {size:Nat} {w w1:World} {base:Nat} {v:Value} {ps:List α}
theorem ee.none_(R:α->List Value->Prop)(e:TypeId)(size:Nat)(w:World)(base:Nat):ee R e size w base (.slice none 0 0) []:=⟨[],En _ _ _ _,aD.none _ _⟩
theorem ee.dW(h:ee R e size w base v ps)(hR:∀p c,R p c->R' p c):ee R' e size w base v ps:=by
 obtain⟨inner,ho,hr⟩:=h;exact⟨inner,ho,hr.dW hR⟩
theorem ee.below(h:ee R e size w base v ps)(hb:Below w.heap.size w w1):ee R e size w1 base v ps:=by
 obtain⟨inner,ho,hr⟩:=h;exact⟨inner,GH ho hb,hr⟩
theorem ee.eZ(h:ee R e size w base v ps){g:Nat}{t:TypeId}{cells:Array Value}(hb:w.heap[g]?=some (.cells cells t (0,0)))(ht:e≠t)(j:Nat)(u:Value):ee R e size (w.setCell ⟨g,j,none⟩ u) base v ps:=by
 obtain⟨inner,ho,hr⟩:=h;exact⟨inner,Hj ho (kT ho hb ht) u,hr⟩
theorem ee.keep(h:ee R e size w base v ps){g:Nat}{t:TypeId}{cells:Array Value}(hb:w.heap[g]?=some (.cells cells t (0,0)))(ht:e≠t)(hk:aG w w1 g none):ee R e size w1 base v ps:=by
 obtain⟨inner,ho,hr⟩:=h;exact⟨inner,hk.own ho (Ne.symm (kT ho hb ht)) (by cases v.ownBlock<;>simp),hr⟩
theorem ee.reads(h:ee R e size w base v ps):∃A c,v= .slice A ps.length c/\ps.length<=c/\iC R size w A ps.length ps:=by
 obtain⟨inner,ho,hr⟩:=h;obtain⟨A,c,rfl,f⟩:=Hl ho hr rfl;exact⟨A,c,rfl,Er ho,f⟩
theorem ee.FR(h:ee R e size w base v ps){g:Nat}{t:TypeId}{cells:Array Value}(hb:w.heap[g]?=some (.cells cells t (0,0)))(ht:e≠t):some g≠v.ownBlock:=by
 obtain⟨inner,ho,hr⟩:=h;exact kT ho hb ht
end
section
variable {P:Program} {D:Array Oper} {rest:List Oper} {o:Oper} {a:Act} {Q:Exit->Act->World->Prop} {α:Type} {R:α->List Value->Prop}
theorem ee.append{w0 W:World}(base:Nat)(db:o.guard=none)(s x:Operand)(t e:TypeId)(z:Value)(size bytes:Nat)
 (ho:o.op= .call {callee:=.builtin .append,args:=#[s,x],argTypes:=#[t,t]})
 (ht:P.underlying t=some (.slice e))(J:(P.info? e).map (fun i=>(i.zero,i.size,i.bytes))=some (some z,size,bytes))(hz:z.cells.size=size)(j:0<size)(O:0<bytes)
 (v:Value)(ps:List α)(p:α)(cs:List Value)(hs:a.eval s=v)(hx:a.eval x= .slice (some ⟨W.heap.size,0,none⟩) 1 1)(hp:R p cs)(E:cs.length=size)(h1:∀u∈cs,u.oneCell'=true)
 (HO:ee R e size W base v ps)(HB:Below base w0 W)(C:base<=W.heap.size)(hl:(ps.length+1)*bytes<=140737488355328)
 (h:∀v1 w1,ee R e size w1 base v1 (ps++[p])->Below base w0 w1->W.grownBy w1 v.ownBlock->(v1.ownBlock=v.ownBlock\/∃b,v1.ownBlock=some b/\W.heap.size<=b)->wpList P D Q rest (a.put o.dst v1) w1):
 wpList P D Q (o::rest) a (W.alloc (.cells cs.toArray e)):=by
 obtain⟨inner,y,hr⟩:=HO;refine xN base db s x t e z size bytes ho ht J hz j O v ps.length inner cs hs hx E h1 y HB C hl ?_;intro v1 w1 l hb1 m f;exact h v1 w1 ⟨inner++cs,by rw[List.length_append,List.length_singleton];exact l,hr.snoc hp E⟩ hb1 m f
end
theorem iC.Ib{α:Type}{R:α->List Value->Prop}{size:Nat}{w:World}{ad:Addr}{n:Nat}{ps:List α}(h:iC R size w (some ad) n ps):
 ∃inner,aD R size ps inner/\∀j u,inner[j]?=some u->w.cell? (ad.add j)=some u:=by
 have B:∀m,m<=ps.length->∃inner,aD R size (ps.take m) inner/\∀j u,inner[j]?=some u->w.cell? (ad.add j)=some u:=by
  intro m
  induction m with
  |zero=>exact fun _=>⟨[],aD.none _ _,fun j u hu=>by simp at hu⟩
  |succ m ih=>
   intro hm;obtain⟨inner,hr,hc⟩:=ih (by omega);obtain⟨f,he,r⟩:=h.2.2 (by have:=h.1;omega);injection he with he;subst he;obtain⟨c,L,hp,t⟩:=r m _ (List.getElem?_eq_getElem (show m<ps.length by omega));refine⟨inner++c,?_,fun j u hu=>?_⟩
   · rw[List.take_succ_eq_append_getElem (show m<ps.length by omega)]
     exact hr.snoc hp L
   · have s:inner.length=m*size:=by rw[hr.1,List.length_take,Nat.min_eq_left (by omega)]
     rcases Nat.lt_or_ge j inner.length with hj|hj
     · rw[List.getElem?_append_left hj]at hu
       exact hc j u hu
     · rw[List.getElem?_append_right hj]at hu
       have:=t (j-inner.length) u hu
       rwa [s,Nat.add_sub_cancel' (by omega)]at this
 obtain⟨inner,hr,hc⟩:=B ps.length (Nat.le_refl _);rw[List.take_length]at hr;exact⟨inner,hr,hc⟩
section
variable {α:Type} {P:Program}
theorem GD(enc:α->Value)(d:α)(t e:TypeId)(kl:IntKind){i:TypeInfo}(ht:P.underlying t=some (.slice e))(hi:P.info? e=some i)(s:i.size=1)(A:Option Addr)(c:Nat)(xs:List α)(j:Int)(h0:0<=j)(hm:j<=xs.length)(hc:xs.length<=c):
 (∀W:World,(Instr.slice t (.slice A xs.length c) none (some (.int kl j)) none).run P W= .ok (.slice A (xs.take j.toNat).length c) W)/\
   (∀w:World,eL enc d w A xs.length xs->eL enc d w A (xs.take j.toNat).length (xs.take j.toNat))/\(xs.take j.toNat).length<=c:=by
 have hl:(xs.take j.toNat).length=j.toNat:=by rw[List.length_take];omega
 refine⟨fun W=>?_,fun w h=>by rw[hl];exact h.pC j.toNat (by omega),by rw[hl];omega⟩;have f:P.elem t=e:=by simp[Program.elem,ht]
 have hu:P.underlying t=some (.slice (P.elem t)):=by rw[f];exact ht
 have ha:(A.map fun x=>x.add 0)=A:=by cases A<;>simp[Addr.add]
 rw[run_slice_h W t A xs.length c hu kl j h0 (by omega),f,hl];simp[sizeOf,typeInfo,hi,s,sliced,Result.andThen,ha]
end
structure Kd (α:Type) where
 sz:Nat
 E:List Nat
 K:World->α->List Value->Prop
 M:World->Nat->(Nat->Prop)->α->List Value->Prop
 K_len:∀{w x cs},K w x cs->cs.length=sz
 K_one:∀{w x cs},K w x cs->∀u∈cs,u.oneCell'=true
 K_below:∀{w w1:World} {x cs},Below w.heap.size w w1->K w x cs->K w1 x cs
 K_of_M:∀{w base ok x cs},M w base ok x cs->K w x cs
 M_mono:∀{w base ok ok' x cs},(∀k,ok k->ok' k)->M w base ok x cs->M w base ok' x cs
 M_bound:∀{w:World} {base ok x cs},M w base ok x cs->M w base (fun k=>ok k/\base<=k/\k<w.heap.size/\∃q,q∈E/\∃cells,w.heap[k]?=some (.cells cells q (0,0))) x cs
 M_move:∀{w w1:World} {base ok x cs},(∀k,ok k->w1.heap[k]?=w.heap[k]?)->M w base ok x cs->M w1 base ok x cs
 M_lower:∀{w base base' ok x cs},base'<=base->M w base ok x cs->M w base' ok x cs
theorem EM{w w1:World}{base:Nat}{e:TypeId}{size n:Nat}{v:Value}{xs:List Value}(h:w.ownsRow base e size v n xs)(hm:∀k,v.ownBlock=some k->w1.heap[k]?=w.heap[k]?):w1.ownsRow base e size v n xs:=by
 obtain⟨h1,h2⟩:=h;refine⟨h1,?_⟩;rcases h2 with h2|⟨g,G,l,rfl,hg,hh,r⟩
 ·exact .inl h2
 ·exact .inr ⟨g,G,l,rfl,hg,(hm g (by simp[Value.ownBlock])).trans hh,r⟩
theorem rV{w:World}{base:Nat}{e:TypeId}{size n:Nat}{v:Value}{xs:List Value}(h:w.ownsRow base e size v n xs)(k:Nat)(hk:v.ownBlock=some k):∃cells,w.heap[k]?=some (.cells cells e (0,0)):=by
 rcases h.2 with⟨rfl,_⟩|⟨g,G,l,rfl,hg,hh,r⟩
 ·simp[Value.ownBlock]at hk
 · have:g=k:=by simpa [Value.ownBlock]using hk
   subst this;exact⟨l,hh⟩
namespace Kd
def C{α:Type}(d:Kd α)(w:World)(A:Option Addr)(n:Nat)(xs:List α):Prop:=iC (d.K w) d.sz w A n xs
def R{α:Type}(d:Kd α)(e:Nat)(w:World)(base:Nat)(ok:Nat->Prop)(v:Value)(xs:List α):Prop:=
 (∀k,v.ownBlock=some k->ok k)/\ee (d.M w base (fun k=>ok k/\some k≠v.ownBlock)) e d.sz w base v xs
section
variable {α:Type} {d:Kd α} {e:Nat} {w w1:World} {base:Nat} {ok ok':Nat->Prop} {v:Value} {xs:List α}
theorem aU{A:Option Addr}{n:Nat}(h:d.C w A n xs)(hb:Below w.heap.size w w1):d.C w1 A n xs:=iC.dW h hb (fun _ _ hp=>d.K_below hb hp)
theorem gx(d:Kd α)(e:Nat)(w:World)(base:Nat)(ok:Nat->Prop):d.R e w base ok (.slice none 0 0) []:=⟨fun k hk=>by simp[Value.ownBlock]at hk,ee.none_ _ _ _ _ _⟩
theorem ag(h:d.R e w base ok v xs)(r:∀k,ok k->ok' k):d.R e w base ok' v xs:=⟨fun k hk=>r k (h.1 k hk),h.2.dW (fun _ _ hp=>d.M_mono (fun k hk=>⟨r k hk.1,hk.2⟩) hp)⟩
theorem hU(h:d.R e w base ok v xs):d.R e w base (fun k=>ok k/\base<=k/\k<w.heap.size/\∃q,q∈e::d.E/\∃cells,w.heap[k]?=some (.cells cells q (0,0))) v xs:=by
 obtain⟨h0,inner,ho,hr⟩:=h;refine⟨fun k hk=>?_,inner,ho,hr.dW (fun _ _ hp=>d.M_mono (fun k hk=>?_) (d.M_bound hp))⟩
 · obtain⟨cells,hc⟩:=rV ho k hk
   exact⟨h0 k hk,o5 ho k hk,zR ho k hk,e,List.mem_cons_self,cells,hc⟩
 · obtain⟨⟨h1,h2⟩,h3,h4,q,hq,hc⟩:=hk
   exact⟨⟨h1,h3,h4,q,List.mem_cons_of_mem _ hq,hc⟩,h2⟩
theorem oe(h:d.R e w base ok v xs)(hm:∀k,ok k->w1.heap[k]?=w.heap[k]?):d.R e w1 base ok v xs:=by
 obtain⟨h0,inner,ho,hr⟩:=h;exact⟨h0,inner,EM ho (fun k hk=>hm k (h0 k hk)),hr.dW (fun _ _ hp=>d.M_move (fun k hk=>hm k hk.1) hp)⟩
theorem aH{base':Nat}(h:d.R e w base ok v xs)(hb:base'<=base):d.R e w base' ok v xs:=by
 obtain⟨h0,inner,ho,hr⟩:=h;exact⟨h0,inner,FV ho hb,hr.dW (fun _ _ hp=>d.M_lower hb hp)⟩
theorem mQ(h:d.R e w base ok v xs)(hm:∀k,ok k->k<w.heap.size->w1.heap[k]?=w.heap[k]?):d.R e w1 base ok v xs:=
 ag (oe (hU h) (fun k hk=>hm k hk.1 hk.2.2.1)) (fun _ hk=>hk.1)
theorem wu{x:α}{cs:List Value}(h:d.M w base ok x cs)(hm:∀k,ok k->k<w.heap.size->w1.heap[k]?=w.heap[k]?):d.M w1 base ok x cs:=
 d.M_mono (fun _ hk=>hk.1) (d.M_move (fun k hk=>hm k hk.1 hk.2.2.1) (d.M_bound h))
theorem jD(h:d.R e w base ok v xs)(hb:Below w.heap.size w w1):d.R e w1 base ok v xs:=mQ h (fun k _ hk=>hb.block k hk)
theorem zE{x:α}{cs:List Value}(h:d.M w base ok x cs)(hb:Below w.heap.size w w1):d.M w1 base ok x cs:=wu h (fun k _ hk=>hb.block k hk)
theorem FB(h:d.R e w base ok v xs){row:Option Nat}(hg:w.grownBy w1 row)(r:∀k,ok k->some k≠row):d.R e w1 base ok v xs:=mQ h (fun k ho hk=>hg.block k hk (r k ho))
theorem aA(h:d.R e w base ok v xs){p:Addr}(r:∀k,ok k->k≠p.block)(u:Value):d.R e (w.setCell p u) base ok v xs:=mQ h (fun k ho _=>Below.heap_setCell w p u k (r k ho))
theorem kw(h:d.R e w base ok v xs){g:Nat}(hk:aG w w1 g none)(r:∀k,ok k->k≠g):d.R e w1 base ok v xs:=mQ h (fun k ho hlt=>hk.2 k hlt (r k ho) (by simp))
theorem bn(h:d.R e w base ok v xs){g t:Nat}{cells:Array Value}(hb:w.heap[g]?=some (.cells cells t (0,0)))(ht:∀q,q∈e::d.E->q≠t):d.R e w base (fun k=>ok k/\k≠g) v xs:=
 ag (hU h) (fun k hk=>⟨hk.1,by
  obtain⟨_,_,_,q,hq,f,hc⟩:=hk;rintro rfl;rw[hc]at hb;injection hb with hb;injection hb with _ hb;exact ht q hq hb⟩)
theorem uB(h:d.R e w base ok v xs):∃A c,v= .slice A xs.length c/\xs.length<=c/\d.C w A xs.length xs:=by
 obtain⟨A,c,he,hl,hr⟩:=ee.reads h.2;exact⟨A,c,he,hl,hr.dW (Below.refl _ _) (fun _ _ hp=>d.K_of_M hp)⟩
theorem az(h:d.R e w base ok v xs):∃A c,v= .slice A xs.length c:=by
 obtain⟨A,c,he,_⟩:=uB h;exact⟨A,c,he⟩
theorem qq(h:d.R e w base ok v xs):∃inner,w.ownsRow base e d.sz v xs.length inner:=by
 obtain⟨_,inner,ho,_⟩:=h;exact⟨inner,ho⟩
theorem bg(h:d.R e w base ok v xs){g t:Nat}{cells:Array Value}(hb:w.heap[g]?=some (.cells cells t (0,0)))(ht:e≠t):some g≠v.ownBlock:=ee.FR h.2 hb ht
end
def scalar{α:Type}(enc:α->Value)(h1:∀x,(enc x).oneCell'=true):Kd α where
 sz:=1
 E:=[]
 K:=fun _ x cs=>cs=[enc x]
 M:=fun _ _ _ x cs=>cs=[enc x]
 K_len:=fun h=>by rw[h];rfl
 K_one:=fun h u hu=>by
  rw[h]at hu;rw[List.mem_singleton.1 hu];exact h1 _
 K_below:=fun _ h=>h
 K_of_M:=fun h=>h
 M_mono:=fun _ h=>h
 M_bound:=fun h=>h
 M_move:=fun _ h=>h
 M_lower:=fun _ h=>h
def int(k:IntKind):Kd Int:=scalar (Value.int k) (fun _=>rfl)
def bool:Kd Bool:=scalar Value.bool (fun _=>rfl)
def string:Kd ByteArray:=scalar Value.string (fun _=>rfl)
def slice{α:Type}(e:Nat)(d:Kd α):Kd (List α) where
 sz:=1
 E:=e::d.E
 K:=fun w xs cs=>∃A c,cs=[.slice A xs.length c]/\xs.length<=c/\d.C w A xs.length xs
 M:=fun w base ok xs cs=>∃v,cs=[v]/\d.R e w base ok v xs
 K_len:=by
  rintro w x cs ⟨A,c,rfl,_⟩;rfl
 K_one:=by
  rintro w x cs ⟨A,c,rfl,_⟩ u hu;rw[List.mem_singleton.1 hu];rfl
 K_below:=by
  rintro w w1 x cs hb ⟨A,c,rfl,hl,hr⟩;exact⟨A,c,rfl,hl,aU hr hb⟩
 K_of_M:=by
  rintro w base ok x cs ⟨v,rfl,h⟩;obtain⟨A,c,rfl,hl,hr⟩:=uB h;exact⟨A,c,rfl,hl,hr⟩
 M_mono:=by
  rintro w base ok ok' x cs r ⟨v,rfl,h⟩;exact⟨v,rfl,ag h r⟩
 M_bound:=by
  rintro w base ok x cs ⟨v,rfl,h⟩;exact⟨v,rfl,hU h⟩
 M_move:=by
  rintro w w1 base ok x cs hm ⟨v,rfl,h⟩;exact⟨v,rfl,oe h hm⟩
 M_lower:=by
  rintro w base base' ok x cs hb ⟨v,rfl,h⟩;exact⟨v,rfl,aH h hb⟩
def iso{α β:Type}(d:Kd α)(f:β->α):Kd β where
 sz:=d.sz
 E:=d.E
 K:=fun w x cs=>d.K w (f x) cs
 M:=fun w base ok x cs=>d.M w base ok (f x) cs
 K_len:=d.K_len
 K_one:=d.K_one
 K_below:=d.K_below
 K_of_M:=d.K_of_M
 M_mono:=d.M_mono
 M_bound:=d.M_bound
 M_move:=d.M_move
 M_lower:=d.M_lower
theorem Hw{α:Type}{d:Kd α}{w:World}{A:Option Addr}{n:Nat}{xs:List α}(h:d.C w A n xs)(z:α)(i:Int)(h0:0<=i)(h1:i<n):
 ∃ad c,A=some ad/\c.length=d.sz/\d.K w (xs.getD i.toNat z) c/\∀j u,c[j]?=some u->w.cell? (ad.add (i.toNat*d.sz+j))=some u:=iC.Ih h z i h0 h1
theorem AM{α:Type}{d:Kd α}{e base:Nat}{ok okp:Nat->Prop}{W w1:World}{v v1:Value}{xs:List α}{p:α}{inner cs:List Value}(h0:∀k,v.ownBlock=some k->ok k)(hr:aD (d.M W base (fun k=>ok k/\some k≠v.ownBlock)) d.sz xs inner)(hp:d.M W base okp p cs)(F:∀k,okp k->ok k/\some k≠v.ownBlock)(E:∀k,W.heap.size<=k->ok k)
 (y:w1.ownsRow base e d.sz v1 (xs.length+1) (inner++cs))(hg:W.grownBy w1 v.ownBlock)(hat:v1.ownBlock=v.ownBlock\/∃b,v1.ownBlock=some b/\W.heap.size<=b):d.R e w1 base ok v1 (xs++[p]):=by
 have B:∀k,some k≠v.ownBlock->k<W.heap.size->some k≠v1.ownBlock:=by
  intro k hk hlt;rcases hat with hat|⟨b,hb,T⟩
  ·rw[hat];exact hk
  · rw[hb]
    intro he;injection he with he;omega
 have step:∀{q:α} {c:List Value} {o:Nat->Prop},d.M W base o q c->(∀k,o k->ok k/\some k≠v.ownBlock)->d.M w1 base (fun k=>ok k/\some k≠v1.ownBlock) q c:=by
  intro q c o hq ho;have h1:=d.M_move (w1:=w1) (fun k hk=>hg.block k hk.2.2.1 (ho k hk.1).2) (d.M_bound hq);exact d.M_mono (fun k hk=>⟨(ho k hk.1).1,B k (ho k hk.1).2 hk.2.2.1⟩) h1
 refine⟨fun k hk=>?_,inner++cs,by rw[List.length_append,List.length_singleton];exact y,?_⟩
 · rcases hat with hat|⟨b,hb,T⟩
   ·exact h0 k (hat▸hk)
   · rw[hb]at hk
     injection hk with hk;exact E k (by omega)
 ·exact(hr.dW (fun _ _ hq=>step hq (fun _ hk=>hk))).snoc (step hp F) (d.K_len (d.K_of_M hp))
section
variable {P:Program} {D:Array Oper} {rest:List Oper} {o:Oper} {a:Act} {Q:Exit->Act->World->Prop} {α:Type}
theorem dH(d:Kd α){w0 W:World}(base:Nat)(db:o.guard=none)(s x:Operand)(t e:TypeId)(z:Value)(bytes:Nat)
 (ho:o.op= .call {callee:=.builtin .append,args:=#[s,x],argTypes:=#[t,t]})
 (ht:P.underlying t=some (.slice e))(J:(P.info? e).map (fun i=>(i.zero,i.size,i.bytes))=some (some z,d.sz,bytes))(hz:z.cells.size=d.sz)(j:0<d.sz)(O:0<bytes)
 (v:Value)(xs:List α)(p:α)(cs:List Value)(ok okp:Nat->Prop)(hs:a.eval s=v)(hx:a.eval x= .slice (some ⟨W.heap.size,0,none⟩) 1 1)(hp:d.M W base okp p cs)(F:∀k,okp k->ok k/\some k≠v.ownBlock)(E:∀k,W.heap.size<=k->ok k)
 (HO:d.R e W base ok v xs)(HB:Below base w0 W)(C:base<=W.heap.size)(hl:(xs.length+1)*bytes<=140737488355328)
 (h:∀v1 w1,d.R e w1 base ok v1 (xs++[p])->Below base w0 w1->W.grownBy w1 v.ownBlock->(v1.ownBlock=v.ownBlock\/∃b,v1.ownBlock=some b/\W.heap.size<=b)->wpList P D Q rest (a.put o.dst v1) w1):
 wpList P D Q (o::rest) a (W.alloc (.cells cs.toArray e)):=by
 obtain⟨h0,inner,y,hr⟩:=HO;refine xN base db s x t e z d.sz bytes ho ht J hz j O v xs.length inner cs hs hx (d.K_len (d.K_of_M hp)) (d.K_one (d.K_of_M hp)) y HB C hl ?_;intro v1 w1 l hb1 m f;exact h v1 w1 (AM h0 hr hp F E l m f) hb1 m f
end
section
variable {P:Program} {D:Array Oper} {o:Oper} {a:Act} {Q:Exit->Act->World->Prop} {Kc:Act->World->Prop} {α:Type}
theorem tv(d:Kd α){w0 W:World}(base:Nat)(hw:Region.wanted o (yielded D a.tmps)=true)(s x:Operand)(t e:TypeId)(z:Value)(bytes:Nat)
 (ho:o.op= .call {callee:=.builtin .append,args:=#[s,x],argTypes:=#[t,t]})
 (ht:P.underlying t=some (.slice e))(J:(P.info? e).map (fun i=>(i.zero,i.size,i.bytes))=some (some z,d.sz,bytes))(hz:z.cells.size=d.sz)(j:0<d.sz)(O:0<bytes)
 (v:Value)(xs:List α)(p:α)(cs:List Value)(ok okp:Nat->Prop)(hs:a.eval s=v)(hx:a.eval x= .slice (some ⟨W.heap.size,0,none⟩) 1 1)(hp:d.M W base okp p cs)(F:∀k,okp k->ok k/\some k≠v.ownBlock)(E:∀k,W.heap.size<=k->ok k)
 (HO:d.R e W base ok v xs)(HB:Below base w0 W)(C:base<=W.heap.size)(hl:(xs.length+1)*bytes<=140737488355328)
 (h:∀v1 w1,d.R e w1 base ok v1 (xs++[p])->Below base w0 w1->W.grownBy w1 v.ownBlock->(v1.ownBlock=v.ownBlock\/∃b,v1.ownBlock=some b/\W.heap.size<=b)->Kc (a.put o.dst v1) w1):
 if Region.wanted o (yielded D a.tmps)=true then Oper.wp P o a (W.alloc (.cells cs.toArray e)) Kc Q else Kc (a.put o.dst undef) (W.alloc (.cells cs.toArray e)):=by
 obtain⟨h0,inner,y,hr⟩:=HO;refine IC base hw s x t e z d.sz bytes ho ht J hz j O v xs.length inner cs hs hx (d.K_len (d.K_of_M hp)) (d.K_one (d.K_of_M hp)) y HB C hl ?_;intro v1 w1 l hb1 m f;exact h v1 w1 (AM h0 hr hp F E l m f) hb1 m f
end
theorem Iy{α:Type}{enc:α->Value}(xs:List α):aD (fun(x:α) (cs:List Value)=>cs=[enc x]) 1 xs (encs enc xs):=by
 refine⟨by simp[encs],fun j p hj=>?_⟩;obtain⟨hl,hp⟩:=List.getElem?_eq_some_iff.1 hj;have L:j<(encs enc xs).length:=by rw[yF];exact hl
 rw[Nat.mul_one,List.drop_eq_getElem_cons L];simp[encs,hp]
theorem AU{α:Type}{enc:α->Value}{h1:∀x,(enc x).oneCell'=true}{e:Nat}{w:World}{base:Nat}{ok:Nat->Prop}{v:Value}{xs:List α}(ho:w.ownsRow base e 1 v xs.length (encs enc xs))(r:∀k,v.ownBlock=some k->ok k):(scalar enc h1).R e w base ok v xs:=⟨r,encs enc xs,ho,Iy xs⟩
theorem tE{α:Type}{enc:α->Value}{h1:∀x,(enc x).oneCell'=true}{e:Nat}{w:World}{base:Nat}{ok:Nat->Prop}{v:Value}{xs:List α}(h:(scalar enc h1).R e w base ok v xs):w.ownsRow base e 1 v xs.length (encs enc xs):=by
 obtain⟨_,inner,ho,hr⟩:=h
 have:inner=encs enc xs:=by
  apply List.ext_getElem?;intro j;rcases Nat.lt_or_ge j xs.length with hj|hj
  · have h2:=hr.2 j _ (List.getElem?_eq_getElem hj)
    have hl:j<inner.length:=by have:=hr.1;simp[scalar]at this;omega
    have h3:(inner.drop (j*1)).take 1=[enc xs[j]]:=h2;rw[Nat.mul_one,List.drop_eq_getElem_cons hl]at h3
    have h4:inner[j]=enc xs[j]:=by
     have h5:=congrArg List.head? h3;rw[List.take_succ_cons]at h5;exact Option.some.inj h5
    rw[List.getElem?_eq_getElem hl,h4];simp[encs,List.getElem?_eq_getElem hj]
  · have h3:inner.length=xs.length:=by have:=hr.1;simp[scalar]at this;omega
    rw[List.getElem?_eq_none (by omega),List.getElem?_eq_none (by rw[yF];omega)]
 rw[<-this];exact ho
theorem re{α:Type}{enc:α->Value}{d:α}{h1:∀x,(enc x).oneCell'=true}{w:World}{A:Option Addr}{n:Nat}{xs:List α}(h:eL enc d w A n xs):(scalar enc h1).C w A n xs:=by
 refine⟨h.1,h.2.1,fun hn=>?_⟩;obtain⟨ad,e,hc⟩:=h.2.2 hn;refine⟨ad,e,fun j p hj=>⟨[enc p],rfl,rfl,fun i u hu=>?_⟩⟩;obtain⟨hl,hp⟩:=List.getElem?_eq_some_iff.1 hj;have h2:=hc j (by have:=h.1;omega);rw[List.getD_eq_getElem?_getD,hj]at h2;cases i with
 |zero=>
  have:enc p=u:=by simpa using hu
  subst this;simpa [scalar]using h2
 |succ i=>simp at hu
theorem pm{α:Type}{enc:α->Value}{d:α}{h1:∀x,(enc x).oneCell'=true}{w:World}{A:Option Addr}{n:Nat}{xs:List α}(h:(scalar enc h1).C w A n xs):eL enc d w A n xs:=by
 refine⟨h.1,h.2.1,fun hn=>?_⟩;obtain⟨ad,e,hc⟩:=h.2.2 hn;refine⟨ad,e,fun j hj=>?_⟩;have hl:j<xs.length:=by have:=h.1;omega
 obtain⟨c,_,hK,r⟩:=hc j _ (List.getElem?_eq_getElem hl);have f:c=[enc xs[j]]:=hK;subst f;have:=r 0 _ rfl;simpa [scalar,List.getD_eq_getElem?_getD,List.getElem?_eq_getElem hl]using this
end Kd
namespace Kd
structure Mono {α β:Type} (F:Kd α->Kd β):Prop where
 sz:∀d d':Kd α,d.sz=d'.sz->(F d).sz=(F d').sz
 K:∀d d':Kd α,d.sz=d'.sz->(∀w x cs,d.K w x cs->d'.K w x cs)->∀w x cs,(F d).K w x cs->(F d').K w x cs
 M:∀d d':Kd α,d.sz=d'.sz->(∀w base ok x cs,d.M w base ok x cs->d'.M w base ok x cs)->∀w base ok x cs,(F d).M w base ok x cs->(F d').M w base ok x cs
end Kd
namespace Kd
theorem aQ{α:Type}{d:Kd α}{e base:Nat}{ok:Nat->Prop}{W w1:World}{u v v1:Value}{xs:List α}(h:d.R e W base (fun k=>ok k/\some k≠v.ownBlock) u xs)(hg:W.grownBy w1 v.ownBlock)(hat:v1.ownBlock=v.ownBlock\/∃b,v1.ownBlock=some b/\W.heap.size<=b):d.R e w1 base (fun k=>ok k/\some k≠v1.ownBlock) u xs:=by
 refine ag (oe (hU h) (fun k hk=>hg.block k hk.2.2.1 hk.1.2)) (fun k hk=>⟨hk.1.1,?_⟩);rcases hat with hat|⟨b,hb,T⟩
 ·rw[hat];exact hk.1.2
 · rw[hb]
   intro he;injection he with he;have:=hk.2.2.1;omega
theorem pV{α:Type}{d:Kd α}{e base:Nat}{ok:Nat->Prop}{w:World}{v:Value}{xs:List α}(h:d.R e w base ok v xs):(slice e d).M w base ok xs [v]:=⟨v,rfl,h⟩
end Kd
namespace Kd
section
variable {α β:Type} {d:Kd α} {d':Kd β} {e e':Nat} {w w1 W:World} {base b b':Nat} {ok ok' X af:Nat->Prop} {v u:Value} {xs:List α} {ys:List β}
theorem pI(h:d.R e w base ok v xs)(o:Obj):d.R e (w.alloc o) base ok v xs:=jD h (bK (Below.refl _ _) o)
theorem bD(h:d.R e w base ok v xs):d.R e w.drew base ok v xs:=jD h (ni (Below.refl _ _))
theorem qc(h:d.R e w base ok v xs)(m:Nat):d.R e (w.drewN m) base ok v xs:=jD h (cg (Below.refl _ _) m)
theorem kF{A:Option Addr}{n:Nat}(h:d.C w A n xs)(o:Obj):d.C (w.alloc o) A n xs:=aU h (bK (Below.refl _ _) o)
theorem iG{A:Option Addr}{n:Nat}(h:d.C w A n xs):d.C w.drew A n xs:=aU h (ni (Below.refl _ _))
theorem jF{A:Option Addr}{n:Nat}(h:d.C w A n xs)(m:Nat):d.C (w.drewN m) A n xs:=aU h (cg (Below.refl _ _) m)
theorem Ie(d:Kd α)(w:World):d.C w none ([]:List α).length []:=⟨rfl,by simp,fun h=>absurd h (Nat.lt_irrefl 0)⟩
theorem am{A:Option Addr}{n c:Nat}(h:d.R e w base ok (.slice A n c) xs):n=xs.length/\n<=c/\d.C w A xs.length xs:=by
 obtain⟨A',c',he,hl,hr⟩:=uB h;injection he with h1 h2 h3;subst h1;exact⟨h2,by omega,hr⟩
theorem aj(h:d.R e w base ok v xs):∀k,v.ownBlock=some k->k<w.heap.size:=by
 obtain⟨inner,ho⟩:=qq h;exact zR ho
theorem ar(h:d.R e w base ok v xs):∀k,v.ownBlock=some k->base<=k:=by
 obtain⟨inner,ho⟩:=qq h;exact o5 ho
theorem dv(h:d.R e w base ok v xs)(hp:0<xs.length):∃g G,v= .slice (some ⟨g,0,none⟩) xs.length G/\base<=g/\g<w.heap.size/\∃cells,w.heap[g]?=some (.cells cells e (0,0)):=by
 obtain⟨inner,ho⟩:=qq h;obtain⟨g,G,he,hb,hl⟩:=ho.form hp;obtain⟨cells,hc⟩:=rV ho g (by rw[he];simp[Value.ownBlock]);exact⟨g,G,he,hb,hl,cells,hc⟩
end
section
variable {w W:World} {A:Option Addr} {n:Nat}
theorem eQ{k:IntKind}{xs:List Int}(h:(Kd.int k).C w A n xs)(i:Int)(h0:0<=i)(h1:i<n):∃ad,A=some ad/\w.cell? (ad.add i.toNat)=some (.int k (rd xs i)):=
 eL.at_ (pm (enc:=Value.int k) (d:=(0:Int)) (h1:=fun _=>rfl) h) i h0 h1
theorem Io{xs:List Bool}(h:Kd.bool.C w A n xs)(i:Int)(h0:0<=i)(h1:i<n):∃ad,A=some ad/\w.cell? (ad.add i.toNat)=some (.bool (cP false xs i)):=
 eL.at_ (pm (enc:=Value.bool) (d:=false) (h1:=fun _=>rfl) h) i h0 h1
theorem Eh{xs:List ByteArray}(h:Kd.string.C w A n xs)(i:Int)(h0:0<=i)(h1:i<n):∃ad,A=some ad/\w.cell? (ad.add i.toNat)=some (.string (cP ByteArray.empty xs i)):=
 eL.at_ (pm (enc:=Value.string) (d:=ByteArray.empty) (h1:=fun _=>rfl) h) i h0 h1
variable {α:Type} {enc:α->Value} {h1:∀x,(enc x).oneCell'=true} {e base g G:Nat} {ok:Nat->Prop} {xs:List α}
theorem DX(d:α)(h:(scalar enc h1).R e W base ok (.slice (some ⟨g,0,none⟩) xs.length G) xs)(i:Int)(h0:0<=i)(hi:i<xs.length):W.cell? ⟨g,i.toNat,none⟩=some (enc (cP d xs i))/\W.frozen? ⟨g,i.toNat,none⟩=false:=DY (tE h) i h0 hi
theorem Au(h:(scalar enc h1).R e W base ok (.slice (some ⟨g,0,none⟩) xs.length G) xs)(i:Int)(x:α):(scalar enc h1).R e (W.setCell ⟨g,i.toNat,none⟩ (enc x)) base ok (.slice (some ⟨g,0,none⟩) xs.length G) (xs.set i.toNat x)/\W.grownBy (W.setCell ⟨g,i.toNat,none⟩ (enc x)) (some g):=by
 obtain⟨ho,hg⟩:=Hh (tE h) i x;exact⟨AU (by rw[List.length_set];exact ho) h.1,hg⟩
end
section
variable {P:Program} {D:Array Oper} {rest:List Oper} {o:Oper} {a:Act} {Q:Exit->Act->World->Prop}
theorem xP{W w1:World}{v:Value}(db:o.guard=none)(cG:(execOp a.eval o).run P W= .ok (.value v) w1)(h:wpList P D Q rest (a.put o.dst v) w1):wpList P D Q (o::rest) a W:=by
 refine wpList_plain db fun K hK=>?_
 unfold Oper.wp;rw[cG];exact hK _ _ h
variable {α:Type}
theorem du(d:Kd α){w0 W:World}(base e:Nat)(db:o.guard=none){N:Tmp}(l:o.dst=some N){xs:List α}{inner:List Value}{ok okp:Nat->Prop}
 (cG:(execOp a.eval o).run P W= .ok (.value (.slice (some ⟨W.heap.size,0,none⟩) xs.length xs.length)) (W.alloc (.cells inner.toArray e)))
 (f:aD (d.M W base okp) d.sz xs inner)(r:∀k,okp k->ok k)(E:ok W.heap.size)(HB:Below base w0 W)(C:base<=W.heap.size)(hm:xs.length<=9223372036854775807)
 (h:∀v1 w1,d.R e w1 base ok v1 xs->Below base w0 w1->W.grownBy w1 none->(∃b,v1.ownBlock=some b/\W.heap.size<=b)->wpList P D Q rest (a.put o.dst v1) w1):wpList P D Q (o::rest) a W:=by
 refine xP db cG (h _ _ ⟨fun k hk=>?_,inner,?_,?_⟩ (HB.alloc C _) (World.grownBy_alloc W _ none) ⟨W.heap.size,by simp[Value.ownBlock],Nat.le_refl _⟩)
 · have:W.heap.size=k:=by simpa [Value.ownBlock]using hk
   subst this;exact E
 · have h2:=World.ownsRow_lit (base:=base) (e:=e) (size:=d.sz) W inner.toArray xs.length C (by simpa [maxLen]using hm) (by simpa using f.1)
   simpa using h2
 · refine f.dW (fun p c hp=>d.M_mono (fun k hk=>⟨r k hk.1,fun he=>?_⟩) (zE (d.M_bound hp) (bK (Below.refl _ _) _)))
   have h3:k=W.heap.size:=by simpa [Value.ownBlock]using he
   have:=hk.2.2.1;omega
theorem xQ{α:Type}{R:α->List Value->Prop}{z:Value}{size:Nat}{z0:α}(hz:z.cells.size=size)(hs:0<size)(h0:R z0 z.cells.toList)(m:Nat):aD R size (List.replicate m z0) (madeCells z.cells (m*size)).toList:=by
 refine⟨by simp[size_madeCells],fun j p hj=>?_⟩;obtain⟨k,hp⟩:=List.getElem?_eq_some_iff.1 hj;have hjm:j<m:=by simpa using k
 have hp':z0=p:=by simpa using hp
 subst hp';have T:j*size+size<=m*size:=by rw[<-Nat.succ_mul];exact Nat.mul_le_mul_right _ hjm
 have:((madeCells z.cells (m*size)).toList.drop (j*size)).take size=z.cells.toList:=by
  apply List.ext_getElem
  · simp[size_madeCells,hz]
    omega
  · intro i h1 h2
    have hi:i<size:=by rw[Array.length_toList,hz]at h2;exact h2
    have f:(j*size+i)%size=i:=by
     rw[Nat.mul_comm,Nat.mul_add_mod];exact Nat.mod_eq_of_lt hi
    simp[madeCells,hz,f];rw[getElem!_pos z.cells i (by omega)]
 rw[this];exact h0
theorem gX(d:Kd α){w0 W:World}(base e:Nat)(db:o.guard=none){N:Tmp}(hd:o.dst=some N)(t:TypeId)(x y:Operand)(ho:o.op= .makeSlice t x y)(n:Int)(hx:a.eval x= .int .i64 n)(hy:a.eval y= .int .i64 n)
 (ht:P.underlying t=some (.slice e))(z:Value)(bytes:Nat)(J:(P.info? e).map (fun i=>(i.zero,i.size,i.bytes))=some (some z,d.sz,bytes))(hz:z.cells.size=d.sz)(j:0<d.sz)(O:0<bytes)
 (z0:α){ok okp:Nat->Prop}(f:d.M W base okp z0 z.cells.toList)(r:∀k,okp k->ok k)(E:ok W.heap.size)(h0:0<=n)(hl:n.toNat*bytes<=281474976710656)(HB:Below base w0 W)(C:base<=W.heap.size)
 (h:∀v1 w1,d.R e w1 base ok v1 (List.replicate n.toNat z0)->Below base w0 w1->W.grownBy w1 none->(∃b,v1.ownBlock=some b/\W.heap.size<=b)->wpList P D Q rest (a.put o.dst v1) w1):wpList P D Q (o::rest) a W:=by
 obtain⟨m,rfl⟩:=Int.eq_ofNat_of_zero_le h0;simp only[Int.toNat_natCast]at hl h;obtain⟨i0,hi,S⟩:=Option.map_eq_some_iff.1 J;simp only[Prod.mk.injEq]at S;obtain⟨I,U,V⟩:=S;have hm:m<=281474976710656:=Nat.le_trans (Nat.le_mul_of_pos_right _ O) hl
 have hr:=run_make (P:=P) W t e i0 z ht hi I .i64 .i64 (m:Int) (m:Int) (by omega) (by omega)
  (by
    have h3:((i0.bytes*m:Nat):Int)<=281474976710656:=by rw[V,Nat.mul_comm];omega
    rwa [Int.natCast_mul]at h3) (by omega)
 simp only[Int.toNat_natCast]at hr;rw[U]at hr;refine du d base e db hd (xs:=List.replicate m z0) (inner:=(madeCells z.cells (m*d.sz)).toList) (okp:=okp) (ok:=ok) ?_ (xQ hz j f m) r E HB C (by simp;omega) h;simp[execOp,ho,hx,hy,hr]
end
end Kd
theorem GC{w:World}{base n m c size:Nat}{e:TypeId}{A:Option Addr}{xs:List Value}(h:w.ownsRow base e size (.slice A n c) n xs)(hm:m<=n):w.ownsRow base e size (.slice A m c) m (xs.take (m*size)):=by
 obtain⟨h1,h2⟩:=h;refine⟨by rw[List.length_take,h1];exact Nat.min_eq_left (Nat.mul_le_mul_right _ hm),?_⟩;rcases h2 with⟨he,h0⟩|⟨g,G,l,he,hb,hh,f,B,E,ht⟩
 · injection he with ha _ hc
   subst ha;subst hc;exact .inl ⟨by rw[show m=0 by omega],by omega⟩
 · injection he with ha _ hc
   subst ha;subst hc;refine .inr ⟨g,c,l,rfl,hb,hh,by omega,B,E,?_⟩;rw[<-ht,List.take_take,Nat.min_eq_left (Nat.mul_le_mul_right _ hm)]
section
variable {P:Program}
theorem ov(t e:TypeId)(kh:IntKind){i:TypeInfo}(ht:P.underlying t=some (.slice e))(hi:P.info? e=some i)(A:Option Addr)(n c:Nat)(j:Int)(h0:0<=j)(hm:j<=n)(hc:n<=c):
 ∀W:World,(Instr.slice t (.slice A n c) none (some (.int kh j)) none).run P W= .ok (.slice A j.toNat c) W:=by
 intro W;have f:P.elem t=e:=by simp[Program.elem,ht]
 have hu:P.underlying t=some (.slice (P.elem t)):=by rw[f];exact ht
 have ha:(A.map fun x=>x.add 0)=A:=by cases A<;>simp[Addr.add]
 rw[run_slice_h W t A n c hu kh j h0 (by omega),f];simp[sizeOf,typeInfo,hi,sliced,Result.andThen,ha]
theorem BZ(t e:TypeId)(kl:IntKind){i:TypeInfo}(ht:P.underlying t=some (.slice e))(hi:P.info? e=some i)(size:Nat)(s:i.size=size)(A:Option Addr)(n c:Nat)(j:Int)(h0:0<=j)(hm:j<=n):
 ∀W:World,(Instr.slice t (.slice A n c) (some (.int kl j)) none none).run P W= .ok (.slice (if c=j.toNat then A else A.map (·.add (j.toNat*size))) (n-j.toNat) (c-j.toNat)) W:=by
 intro W;have f:P.elem t=e:=by simp[Program.elem,ht]
 have hu:P.underlying t=some (.slice (P.elem t)):=by rw[f];exact ht
 rw[run_slice_l W t A n c hu kl j h0 hm,f];simp[sizeOf,typeInfo,hi,s,sliced,Result.andThen]
end
def gn(w:World)(base:Nat)(e:TypeId)(size:Nat)(v:Value)(n:Nat)(xs:List Value):Prop:=
 xs.length=n*size/\
 ((n=0/\∃A,v= .slice A 0 0/\∀a,A=some a->base<=a.block/\∃l,w.heap[a.block]?=some (.cells l e (0,0)))\/
  ∃g off G l,v= .slice (some ⟨g,off*size,none⟩) n G/\base<=g/\w.heap[g]?=some (.cells l e (0,0))/\n<=G/\off+G<=maxLen/\l.size=(off+G)*size/\(l.toList.drop (off*size)).take (n*size)=xs)
section
variable {w w1:World} {base n size:Nat} {e:TypeId} {v:Value} {xs:List Value}
theorem wP(h:w.ownsRow base e size v n xs):gn w base e size v n xs:=by
 obtain⟨h1,h2⟩:=h;refine⟨h1,?_⟩;rcases h2 with⟨rfl,h0⟩|⟨g,G,l,rfl,hb,hh,f,B,E,ht⟩
 ·exact .inl ⟨h0,none,rfl,fun a ha=>by cases ha⟩
 ·exact .inr ⟨g,0,G,l,by rw[Nat.zero_mul],hb,hh,f,by rw[Nat.zero_add];exact B,by rw[Nat.zero_add];exact E,by rw[Nat.zero_mul,List.drop_zero];exact ht⟩
theorem Aw(h:gn w base e size v n xs)(hm:∀k,v.ownBlock=some k->w1.heap[k]?=w.heap[k]?):gn w1 base e size v n xs:=by
 obtain⟨h1,h2⟩:=h;refine⟨h1,?_⟩;rcases h2 with⟨h0,A,rfl,hA⟩|⟨g,off,G,l,rfl,hg,hh,r⟩
 · refine .inl ⟨h0,A,rfl,fun a ha=>?_⟩
   obtain⟨hb,l,hc⟩:=hA a ha;subst ha;exact⟨hb,l,(hm a.block (by simp[Value.ownBlock])).trans hc⟩
 ·exact .inr ⟨g,off,G,l,rfl,hg,(hm g (by simp[Value.ownBlock])).trans hh,r⟩
theorem pk(h:gn w base e size v n xs)(k:Nat)(hk:v.ownBlock=some k):base<=k/\∃cells,w.heap[k]?=some (.cells cells e (0,0)):=by
 rcases h.2 with⟨_,A,rfl,hA⟩|⟨g,off,G,l,rfl,hg,hh,r⟩
 · cases A with
   |none=>simp[Value.ownBlock]at hk
   |some a=>
    have:a.block=k:=by simpa [Value.ownBlock]using hk
    subst this;exact hA a rfl
 · have:g=k:=by simpa [Value.ownBlock]using hk
   subst this;exact⟨hg,l,hh⟩
theorem vO(h:gn w base e size v n xs)(k:Nat)(hk:v.ownBlock=some k):k<w.heap.size:=by
 obtain⟨_,cells,hc⟩:=pk h k hk;exact(Array.getElem?_eq_some_iff.1 hc).1
theorem zQ{base':Nat}(h:gn w base e size v n xs)(hb:base'<=base):gn w base' e size v n xs:=by
 obtain⟨h1,h2⟩:=h;refine⟨h1,?_⟩;rcases h2 with⟨h0,A,rfl,hA⟩|⟨g,off,G,l,rfl,hg,r⟩
 ·exact .inl ⟨h0,A,rfl,fun a ha=>⟨Nat.le_trans hb (hA a ha).1,(hA a ha).2⟩⟩
 ·exact .inr ⟨g,off,G,l,rfl,Nat.le_trans hb hg,r⟩
theorem yp(h:gn w base e size v n xs):∃A c,v= .slice A n c/\n<=c:=by
 rcases h.2 with⟨h0,A,rfl,_⟩|⟨g,off,G,l,rfl,hg,hh,f,r⟩
 ·exact⟨A,0,by rw[h0],by omega⟩
 ·exact⟨_,G,rfl,f⟩
theorem Ey(h:gn w base e size v n xs):n<=9223372036854775807:=by
 rcases h.2 with⟨h0,_⟩|⟨g,off,G,l,rfl,hg,hh,f,hm,r⟩
 ·omega
 · simp only[maxLen]at hm
   omega
theorem jE(g o j:Nat):(⟨g,o,none⟩:Addr).add j=⟨g,o+j,none⟩:=by unfold Addr.add;split<;>simp_all
theorem AW{A:Option Addr}{c:Nat}(h:gn w base e size (.slice A n c) n xs)(hn:0<n):∃ad,A=some ad/\∀j u,xs[j]?=some u->w.cell? (ad.add j)=some u:=by
 rcases h.2 with⟨h0,_⟩|⟨g,off,G,l,he,hg,hh,f,hm,E,ht⟩
 ·omega
 · injection he with ha _ hc
   subst ha;refine⟨_,rfl,fun j u hu=>?_⟩;rw[jE,cell_of_row w g _ l e (0,0) hh];rw[<-ht,List.getElem?_take]at hu;split at hu
   · rw[List.getElem?_drop]at hu
     rw[<-Array.getElem?_toList];exact hu
   ·cases hu
theorem IA{A:Option Addr}{c k:Nat}(h:gn w base e size (.slice A n c) n xs)(hk:k<=n):gn w base e size (.slice (if c=k then A else A.map (·.add (k*size))) (n-k) (c-k)) (n-k) (xs.drop (k*size)):=by
 obtain⟨h1,h2⟩:=h;refine⟨by rw[List.length_drop,h1,Nat.sub_mul],?_⟩;rcases h2 with⟨h0,A',he,hA⟩|⟨g,off,G,l,he,hb,hh,f,B,E,ht⟩
 · injection he with ha hb hc
   subst ha;subst hc;have i:k=0:=by omega
   subst i;exact .inl ⟨by omega,A,by rw[if_pos rfl,h0],hA⟩
 · injection he with ha _ hc
   subst ha;subst hc;by_cases hck:c=k
   · rw[if_pos hck]
     refine .inl ⟨by omega,some ⟨g,off*size,none⟩,?_,fun a ha=>?_⟩
     ·rw[show n-k=0 by omega,show c-k=0 by omega]
     · injection ha with ha
       subst ha;exact⟨hb,l,hh⟩
   · rw[if_neg hck]
     refine .inr ⟨g,off+k,c-k,l,?_,hb,hh,by omega,by omega,by rw[E];congr 1;omega,?_⟩
     ·rw[Option.map_some,jE,Nat.add_mul]
     ·rw[<-ht,List.drop_take,List.drop_drop,Nat.add_mul,Nat.sub_mul]
theorem sw{g:Nat}:∀(vs:List Value) (o:Nat) {w:World} (k:Nat),k≠g->(w.setCells g o vs).heap[k]?=w.heap[k]?
 |[],_,_,_,_=>rfl
 |v::r,o,w,k,hk=>by
  rw[World.setCells,sw r (o+1) k hk];exact Below.heap_setCell w ⟨g,o,none⟩ v k hk
theorem qX(g:Nat):∀(vs:List Value) (o:Nat) (w:World),(w.setCells g o vs).os=w.os/\(w.setCells g o vs).tape=w.tape/\(w.setCells g o vs).output=w.output/\(w.setCells g o vs).heap.size=w.heap.size
 |[],_,_=>⟨rfl,rfl,rfl,rfl⟩
 |v::r,o,w=>by
  obtain⟨h1,h2,h3,h4⟩:=qX g r (o+1) (w.setCell ⟨g,o,none⟩ v);rw[World.setCells];exact⟨h1,h2,h3,by rw[h4];simp[World.setCell]⟩
theorem sj{g:Nat}{e:TypeId}:∀(vs:List Value) (o:Nat) (w:World) (l:Array Value),w.heap[g]?=some (.cells l e (0,0))->o+vs.length<=l.size->
 ∃I,(w.setCells g o vs).heap[g]?=some (.cells I e (0,0))/\I.size=l.size/\I.toList=l.toList.take o++vs++l.toList.drop (o+vs.length)
 |[],o,w,l,h,_=>⟨l,h,rfl,by simp⟩
 |v::r,o,w,l,h,hl=>by
  have h2:=si h o v;simp only[List.length_cons]at hl;obtain⟨I,h3,h4,h5⟩:=sj r (o+1) (w.setCell ⟨g,o,none⟩ v) _ h2 (by simp;omega);refine⟨I,h3,by rw[h4];simp,?_⟩;rw[h5,Array.toList_setIfInBounds];have ho:o<l.toList.length:=by rw[Array.length_toList];omega
  rw[List.take_set,List.drop_set_of_lt (by omega)];simp only[List.length_cons];rw[show o+1+r.length=o+(r.length+1) by omega];congr 1;rw[List.take_succ_eq_append_getElem ho,List.set_append_right _ _ (by rw[List.length_take];omega)];have O:o<l.size:=by omega
  simp[Nat.min_eq_left (Nat.le_of_lt O)]
end
section
variable {P:Program}
theorem FI(w:World)(base:Nat)(t ty e:TypeId)(i:TypeInfo)(z:Value)(size bytes:Nat)(ht:P.underlying t=some (.slice e))(hi:P.info? e=some i)(hz:i.zero=some z)
 (h:i.size=size)(N:i.bytes=bytes)(F:z.cells.size=size)(s:0<size)
 (v:Value)(n:Nat)(xs:List Value)(y:gn w base e size v n xs)
 (a:Addr)(m c:Nat)(H:List Value)(hl:H.length=m*size)(p:∀j u,H[j]?=some u->w.cell? (a.add j)=some u)(h1:∀u∈H,u.oneCell'=true)(hm:0<m)
 (L:n+m<=maxLen)(r:(n+m)*bytes<=140737488355328)(C:base<=w.heap.size):
 ∃v' w',(Builtin.append_ #[t,t] ty #[v,.slice (some a) m c]).run P w= .ok v' w'/\gn w' base e size v' (n+m) (xs++H)/\w.grownBy w' v.ownBlock/\(v'.ownBlock=v.ownBlock\/∃b,v'.ownBlock=some b/\w.heap.size<=b):=by
 have M:∀(b:Addr) (G:Nat),G<n+m->(∀j u,xs[j]?=some u->w.cell? (b.add j)=some u)->v= .slice (some b) n G->
  ∃v' w',(Builtin.append_ #[t,t] ty #[v,.slice (some a) m c]).run P w= .ok v' w'/\gn w' base e size v' (n+m) (xs++H)/\w.grownBy w' v.ownBlock/\(v'.ownBlock=v.ownBlock\/∃b,v'.ownBlock=some b/\w.heap.size<=b):=by
  intro b G U J hv;obtain⟨v',w',hr,ho,hg⟩:=run_append_arg_grows (P:=P) (w:=w) t ty e i z size bytes ht hi hz h N F s b n G xs y.1 J a m c H hl p U L r;refine⟨v',w',by rw[hv];exact hr,zQ (wP ho) C,⟨hg.os,hg.tape,hg.output,hg.size,fun k hk _=>hg.block k hk (by simp)⟩,?_⟩;obtain⟨g',S,he,hb,_⟩:=ho.form (by omega);exact .inr ⟨g',by rw[he];simp[Value.ownBlock],hb⟩
 rcases y.2 with⟨h0,A,hv,hA⟩|⟨g,off,G,l,hv,V,hg,f,B,E,q⟩
 · cases A with
   |none=>
    subst h0;have ho:w.ownsRow base e size v 0 xs:=⟨y.1,.inl ⟨hv,rfl⟩⟩;obtain⟨v',w',hr,O,hg,_,hat⟩:=run_append_own_at (P:=P) w base t ty e i z size bytes ht hi hz h N F s v 0 xs ho a m c H hl p h1 L r C;refine⟨v',w',hr,wP O,hg,?_⟩;rcases hat with hat|hat
    ·exact .inl hat
    ·exact .inr ⟨_,hat,Nat.le_refl _⟩
   |some b=>
    have hx:xs=[]:=List.eq_nil_of_length_eq_zero (by rw[y.1,h0,Nat.zero_mul]);exact M b 0 (by omega) (fun j u hu=>by rw[hx]at hu;simp at hu) (by rw[hv,h0])
 · by_cases hroom:n+m<=G
   · have T:off*size+n*size+H.length<=l.size:=by
      rw[hl,E,<-Nat.add_mul,<-Nat.add_mul];exact Nat.mul_le_mul_right _ (by omega)
     subst h
     have hr:=run_append_room_cells (P:=P) (w:=w) t ty e i ht hi g (off*i.size) n G a m c H hl p h1 hroom
      (fun j hj=>by rw[cell_of_row w g _ l e (0,0) hg];simp;omega) (fun j _=>dC hg _)
     obtain⟨I,h3,h4,h5⟩:=sj H (off*i.size+n*i.size) w l hg T;obtain⟨s1,s2,s3,s4⟩:=qX g H (off*i.size+n*i.size) w
     refine⟨_,_,by rw[hv];exact hr,⟨by rw[List.length_append,y.1,hl,Nat.add_mul],.inr ⟨g,off,G,I,rfl,V,h3,hroom,B,by rw[h4,E],?_⟩⟩,
      ⟨s1,s2,s3,by rw[s4];exact Nat.le_refl _,fun k _ hk=>sw H _ k (fun he=>hk (by rw[hv,he];simp[Value.ownBlock]))⟩,.inl (by rw[hv];rfl)⟩
     rw[h5,List.append_assoc,List.drop_append_of_le_length (by rw[List.length_take,Array.length_toList];omega),List.drop_take];rw[show off*i.size+n*i.size-off*i.size=n*i.size by omega,q];rw[<-List.append_assoc];exact List.take_left' (by rw[List.length_append,y.1,hl,Nat.add_mul])
   · refine M ⟨g,off*size,none⟩ G (by omega) (fun j u hu=>?_) hv
     rw[jE,cell_of_row w g _ l e (0,0) hg];rw[<-q,List.getElem?_take]at hu;split at hu
     · rw[List.getElem?_drop]at hu
       rw[<-Array.getElem?_toList];exact hu
     ·cases hu
end
namespace Kd
theorem Im{α:Type}{R:α->List Value->Prop}{size m:Nat}{ps:List α}{cs:List Value}(h:aD R size ps cs)(hm:m<=ps.length):aD R size (ps.take m) (cs.take (m*size)):=by
 refine⟨by rw[List.length_take,List.length_take,h.1,Nat.min_eq_left hm,Nat.min_eq_left (Nat.mul_le_mul_right _ hm)],fun j p hj=>?_⟩;rw[List.getElem?_take]at hj;split at hj
 · rename_i hjm
   have:=h.2 j p hj;have T:j*size+size<=m*size:=by rw[<-Nat.succ_mul];exact Nat.mul_le_mul_right _ hjm
   rw[List.drop_take,List.take_take,Nat.min_eq_left (by omega)];exact this
 ·cases hj
theorem Gx{α:Type}{R:α->List Value->Prop}{size m:Nat}{ps:List α}{cs:List Value}(h:aD R size ps cs):aD R size (ps.drop m) (cs.drop (m*size)):=by
 refine⟨by rw[List.length_drop,List.length_drop,h.1,Nat.sub_mul],fun j p hj=>?_⟩;rw[List.getElem?_drop]at hj;have:=h.2 (m+j) p hj;rw[List.drop_drop,<-Nat.add_mul];exact this
theorem pg{α:Type}{d:Kd α}{e m n c:Nat}{w:World}{base:Nat}{ok:Nat->Prop}{A:Option Addr}{xs:List α}(h:d.R e w base ok (.slice A n c) xs)(hm:m<=xs.length):d.R e w base ok (.slice A m c) (xs.take m):=by
 obtain⟨h0,inner,ho,hr⟩:=h
 have hn:n=xs.length:=by
  obtain⟨A',c',he⟩:=DR ho;injection he
 subst hn
 have hb:∀x y:Nat,(Value.slice A x c).ownBlock=(Value.slice A y c).ownBlock:=by
  intro x y;cases A<;>rfl
 refine⟨fun k hk=>h0 k (by rw[hb _ m];exact hk),inner.take (m*d.sz),?_,?_⟩
 · rw[List.length_take,Nat.min_eq_left hm]
   exact GC ho hm
 · rw[hb m xs.length]
   exact Im hr hm
def Q{α:Type}(d:Kd α)(e:Nat)(w:World)(base:Nat)(ok:Nat->Prop)(v:Value)(xs:List α):Prop:=
 (∀k,v.ownBlock=some k->ok k)/\∃inner,gn w base e d.sz v xs.length inner/\aD (d.M w base (fun k=>ok k/\some k≠v.ownBlock)) d.sz xs inner
section
variable {α:Type} {d:Kd α} {e:Nat} {w w1 W:World} {base:Nat} {ok ok':Nat->Prop} {v:Value} {xs:List α}
theorem oJ(h:d.R e w base ok v xs):d.Q e w base ok v xs:=by
 obtain⟨h0,inner,ho,hr⟩:=h;exact⟨h0,inner,wP ho,hr⟩
theorem jw(d:Kd α)(e:Nat)(w:World)(base:Nat)(ok:Nat->Prop):d.Q e w base ok (.slice none 0 0) []:=oJ (gx d e w base ok)
theorem bX(h:d.Q e w base ok v xs)(r:∀k,ok k->ok' k):d.Q e w base ok' v xs:=by
 obtain⟨h0,inner,ho,hr⟩:=h;exact⟨fun k hk=>r k (h0 k hk),inner,ho,hr.dW (fun _ _ hp=>d.M_mono (fun k hk=>⟨r k hk.1,hk.2⟩) hp)⟩
theorem oQ(h:d.Q e w base ok v xs):d.Q e w base (fun k=>ok k/\base<=k/\k<w.heap.size/\∃q,q∈e::d.E/\∃cells,w.heap[k]?=some (.cells cells q (0,0))) v xs:=by
 obtain⟨h0,inner,ho,hr⟩:=h;refine⟨fun k hk=>?_,inner,ho,hr.dW (fun _ _ hp=>d.M_mono (fun k hk=>?_) (d.M_bound hp))⟩
 · obtain⟨hb,cells,hc⟩:=pk ho k hk
   exact⟨h0 k hk,hb,vO ho k hk,e,List.mem_cons_self,cells,hc⟩
 · obtain⟨⟨h1,h2⟩,h3,h4,q,hq,hc⟩:=hk
   exact⟨⟨h1,h3,h4,q,List.mem_cons_of_mem _ hq,hc⟩,h2⟩
theorem tJ(h:d.Q e w base ok v xs)(hm:∀k,ok k->w1.heap[k]?=w.heap[k]?):d.Q e w1 base ok v xs:=by
 obtain⟨h0,inner,ho,hr⟩:=h;exact⟨h0,inner,Aw ho (fun k hk=>hm k (h0 k hk)),hr.dW (fun _ _ hp=>d.M_move (fun k hk=>hm k hk.1) hp)⟩
theorem mH{base':Nat}(h:d.Q e w base ok v xs)(hb:base'<=base):d.Q e w base' ok v xs:=by
 obtain⟨h0,inner,ho,hr⟩:=h;exact⟨h0,inner,zQ ho hb,hr.dW (fun _ _ hp=>d.M_lower hb hp)⟩
theorem vV(h:d.Q e w base ok v xs)(hm:∀k,ok k->k<w.heap.size->w1.heap[k]?=w.heap[k]?):d.Q e w1 base ok v xs:=bX (tJ (oQ h) (fun k hk=>hm k hk.1 hk.2.2.1)) (fun _ hk=>hk.1)
theorem mZ(h:d.Q e w base ok v xs)(hb:Below w.heap.size w w1):d.Q e w1 base ok v xs:=vV h (fun k _ hk=>hb.block k hk)
theorem rJ(h:d.Q e w base ok v xs)(o:Obj):d.Q e (w.alloc o) base ok v xs:=mZ h (bK (Below.refl _ _) o)
theorem jU(h:d.Q e w base ok v xs):d.Q e w.drew base ok v xs:=mZ h (ni (Below.refl _ _))
theorem tk(h:d.Q e w base ok v xs)(m:Nat):d.Q e (w.drewN m) base ok v xs:=mZ h (cg (Below.refl _ _) m)
theorem di(h:d.Q e w base ok v xs){p:Addr}(r:∀k,ok k->k≠p.block)(u:Value):d.Q e (w.setCell p u) base ok v xs:=vV h (fun k ho _=>Below.heap_setCell w p u k (r k ho))
theorem fZ(h:d.Q e w base ok v xs){g:Nat}(hk:aG w w1 g none)(r:∀k,ok k->k≠g):d.Q e w1 base ok v xs:=vV h (fun k ho hlt=>hk.2 k hlt (r k ho) (by simp))
theorem fe(h:d.Q e w base ok v xs){g t:Nat}{cells:Array Value}(hb:w.heap[g]?=some (.cells cells t (0,0)))(ht:∀q,q∈e::d.E->q≠t):d.Q e w base (fun k=>ok k/\k≠g) v xs:=
 bX (oQ h) (fun k hk=>⟨hk.1,by
  obtain⟨_,_,_,q,hq,f,hc⟩:=hk;rintro rfl;rw[hc]at hb;injection hb with hb;injection hb with _ hb;exact ht q hq hb⟩)
theorem eJ(h:d.Q e w base ok v xs):∀k,v.ownBlock=some k->k<w.heap.size:=by
 obtain⟨_,inner,ho,_⟩:=h;exact vO ho
theorem Gp(h:d.Q e w base ok v xs):∀k,v.ownBlock=some k->base<=k:=by
 obtain⟨_,inner,ho,_⟩:=h;exact fun k hk=>(pk ho k hk).1
theorem ja(h:d.Q e w base ok v xs){g t:Nat}{cells:Array Value}(hb:w.heap[g]?=some (.cells cells t (0,0)))(ht:e≠t):some g≠v.ownBlock:=by
 obtain⟨_,inner,ho,_⟩:=h;intro he;obtain⟨_,f,hc⟩:=pk ho g he.symm;rw[hc]at hb;injection hb with hb;injection hb with _ hb;exact ht hb
theorem fH(h:d.Q e w base ok v xs):∃A c,v= .slice A xs.length c/\xs.length<=c:=by
 obtain⟨_,inner,ho,_⟩:=h;exact yp ho
theorem dK{A:Option Addr}{n c:Nat}(h:d.Q e w base ok (.slice A n c) xs):n=xs.length/\n<=c/\d.C w A xs.length xs:=by
 obtain⟨_,inner,ho,hr⟩:=h;obtain⟨A',c',he,hl⟩:=yp ho;injection he with h1 h2 h3;subst h1;subst h2;subst h3;refine⟨rfl,hl,rfl,Ey ho,fun hp=>?_⟩;obtain⟨ad,ha,hc⟩:=AW ho hp;refine⟨ad,ha,fun j p hj=>⟨(inner.drop (j*d.sz)).take d.sz,?_,d.K_of_M (hr.2 j p hj),fun i u hu=>?_⟩⟩
 · have k:=(List.getElem?_eq_some_iff.1 hj).1
   have h1:j*d.sz+d.sz<=inner.length:=by rw[hr.1,<-Nat.succ_mul];exact Nat.mul_le_mul_right _ k
   rw[List.length_take,List.length_drop];omega
 · refine hc _ u ?_
   rw[List.getElem?_take]at hu;split at hu
   · rw[List.getElem?_drop]at hu
     exact hu
   ·cases hu
theorem BC{A:Option Addr}{k n c:Nat}(h:d.Q e w base ok (.slice A n c) xs)(hk:k<=xs.length):d.Q e w base ok (.slice (if c=k then A else A.map (·.add (k*d.sz))) (n-k) (c-k)) (xs.drop k):=by
 have hn:n=xs.length:=(dK h).1;subst hn;obtain⟨h0,inner,ho,hr⟩:=h
 have hb:(Value.slice (if c=k then A else A.map (·.add (k*d.sz))) (xs.length-k) (c-k)).ownBlock=(Value.slice A xs.length c).ownBlock:=by
  split
  ·cases A<;>rfl
  · cases A with
    |none=>rfl
    |some a=>simp[Value.ownBlock];unfold Addr.add;split<;>rfl
 refine⟨fun j hj=>h0 j (by rw[<-hb];exact hj),inner.drop (k*d.sz),?_,?_⟩
 · rw[List.length_drop]
   exact IA ho hk
 · rw[hb]
   exact Gx hr
theorem HW{u v1:Value}{ys:List α}{e':Nat}(h:d.Q e' W base (fun k=>ok k/\some k≠v.ownBlock) u ys)(hg:W.grownBy w1 v.ownBlock)(hat:v1.ownBlock=v.ownBlock\/∃b,v1.ownBlock=some b/\W.heap.size<=b):d.Q e' w1 base (fun k=>ok k/\some k≠v1.ownBlock) u ys:=by
 refine bX (tJ (oQ h) (fun k hk=>hg.block k hk.2.2.1 hk.1.2)) (fun k hk=>⟨hk.1.1,?_⟩);rcases hat with hat|⟨b,hb,T⟩
 ·rw[hat];exact hk.1.2
 · rw[hb]
   intro he;injection he with he;have:=hk.2.2.1;omega
theorem He{okp:Nat->Prop}{v1:Value}{p:α}{inner cs:List Value}(h0:∀k,v.ownBlock=some k->ok k)(hr:aD (d.M W base (fun k=>ok k/\some k≠v.ownBlock)) d.sz xs inner)(hp:d.M W base okp p cs)(F:∀k,okp k->ok k/\some k≠v.ownBlock)(E:∀k,W.heap.size<=k->ok k)
 (y:gn w1 base e d.sz v1 (xs.length+1) (inner++cs))(hg:W.grownBy w1 v.ownBlock)(hat:v1.ownBlock=v.ownBlock\/∃b,v1.ownBlock=some b/\W.heap.size<=b):d.Q e w1 base ok v1 (xs++[p]):=by
 have B:∀k,some k≠v.ownBlock->k<W.heap.size->some k≠v1.ownBlock:=by
  intro k hk hlt;rcases hat with hat|⟨b,hb,T⟩
  ·rw[hat];exact hk
  · rw[hb]
    intro he;injection he with he;omega
 have step:∀{q:α} {c:List Value} {o:Nat->Prop},d.M W base o q c->(∀k,o k->ok k/\some k≠v.ownBlock)->d.M w1 base (fun k=>ok k/\some k≠v1.ownBlock) q c:=by
  intro q c o hq ho;have h1:=d.M_move (w1:=w1) (fun k hk=>hg.block k hk.2.2.1 (ho k hk.1).2) (d.M_bound hq);exact d.M_mono (fun k hk=>⟨(ho k hk.1).1,B k (ho k hk.1).2 hk.2.2.1⟩) h1
 refine⟨fun k hk=>?_,inner++cs,by rw[List.length_append,List.length_singleton];exact y,?_⟩
 · rcases hat with hat|⟨b,hb,T⟩
   ·exact h0 k (hat▸hk)
   · rw[hb]at hk
     injection hk with hk;exact E k (by omega)
 ·exact(hr.dW (fun _ _ hq=>step hq (fun _ hk=>hk))).snoc (step hp F) (d.K_len (d.K_of_M hp))
end
section
variable {P:Program} {D:Array Oper} {rest:List Oper} {o:Oper} {a:Act} {Q':Exit->Act->World->Prop} {Kc:Act->World->Prop} {α:Type}
theorem DG(d:Kd α){w0 W:World}(base:Nat)(t ty e:TypeId)(z:Value)(bytes:Nat)
 (ht:P.underlying t=some (.slice e))(J:(P.info? e).map (fun i=>(i.zero,i.size,i.bytes))=some (some z,d.sz,bytes))(hz:z.cells.size=d.sz)(j:0<d.sz)(O:0<bytes)
 (v:Value)(xs:List α)(p:α)(cs:List Value)(ok okp:Nat->Prop)(hp:d.M W base okp p cs)(F:∀k,okp k->ok k/\some k≠v.ownBlock)(E:∀k,W.heap.size<=k->ok k)
 (HO:d.Q e W base ok v xs)(HB:Below base w0 W)(C:base<=W.heap.size)(hl:(xs.length+1)*bytes<=140737488355328):
 ∃v1 w1,(Builtin.append_ #[t,t] ty #[v,.slice (some ⟨W.heap.size,0,none⟩) 1 1]).run P (W.alloc (.cells cs.toArray e))= .ok v1 w1/\d.Q e w1 base ok v1 (xs++[p])/\Below base w0 w1/\W.grownBy w1 v.ownBlock/\(v1.ownBlock=v.ownBlock\/∃b,v1.ownBlock=some b/\W.heap.size<=b):=by
 obtain⟨h0,inner,y,hr⟩:=HO;obtain⟨i0,hi,S⟩:=Option.map_eq_some_iff.1 J;simp only[Prod.mk.injEq]at S;obtain⟨I,U,V⟩:=S;have N:xs.length+1<=140737488355328:=Nat.le_trans (Nat.le_mul_of_pos_right _ O) hl;have L:=d.K_len (d.K_of_M hp);have hq:gn (W.alloc (.cells cs.toArray e)) base e d.sz v xs.length inner:=Aw y (fun k hk=>Below.heap_alloc W _ k (vO y k hk))
 obtain⟨v1,w1,cG,hq1,m,hat⟩:=FI (P:=P) (W.alloc (.cells cs.toArray e)) base t ty e i0 z d.sz bytes ht hi I U V hz j v xs.length inner hq ⟨W.heap.size,0,none⟩ 1 1 cs (by rw[L,Nat.one_mul])
  (by simpa using World.news_of_block (cs:=cs.toArray) (t:=e) (fr:=(0,0)) (heap_alloc_new W (.cells cs.toArray e))) (d.K_one (d.K_of_M hp)) (by omega) (by simp only[maxLen];omega) hl (by simp;omega)
 have hg:W.grownBy w1 v.ownBlock:=World.grownBy.trans (World.grownBy_alloc W _ _) m
 have Y:v1.ownBlock=v.ownBlock\/∃b,v1.ownBlock=some b/\W.heap.size<=b:=by
  rcases hat with hat|⟨b,hb,T⟩
  ·exact .inl hat
  ·exact .inr ⟨b,hb,by rw[World.size_alloc]at T;omega⟩
 exact⟨v1,w1,cG,He h0 hr hp F E hq1 hg Y,HB.grown hg C (fun k hk=>(pk y k hk).1),hg,Y⟩
theorem BS(d:Kd α){w0 W:World}(base:Nat)(hw:Region.wanted o (yielded D a.tmps)=true)(s x:Operand)(t e:TypeId)(z:Value)(bytes:Nat)
 (ho:o.op= .call {callee:=.builtin .append,args:=#[s,x],argTypes:=#[t,t]})
 (ht:P.underlying t=some (.slice e))(J:(P.info? e).map (fun i=>(i.zero,i.size,i.bytes))=some (some z,d.sz,bytes))(hz:z.cells.size=d.sz)(j:0<d.sz)(O:0<bytes)
 (v:Value)(xs:List α)(p:α)(cs:List Value)(ok okp:Nat->Prop)(hs:a.eval s=v)(hx:a.eval x= .slice (some ⟨W.heap.size,0,none⟩) 1 1)(hp:d.M W base okp p cs)(F:∀k,okp k->ok k/\some k≠v.ownBlock)(E:∀k,W.heap.size<=k->ok k)
 (HO:d.Q e W base ok v xs)(HB:Below base w0 W)(C:base<=W.heap.size)(hl:(xs.length+1)*bytes<=140737488355328)
 (h:∀v1 w1,d.Q e w1 base ok v1 (xs++[p])->Below base w0 w1->W.grownBy w1 v.ownBlock->(v1.ownBlock=v.ownBlock\/∃b,v1.ownBlock=some b/\W.heap.size<=b)->Kc (a.put o.dst v1) w1):
 if Region.wanted o (yielded D a.tmps)=true then Oper.wp P o a (W.alloc (.cells cs.toArray e)) Kc Q' else Kc (a.put o.dst undef) (W.alloc (.cells cs.toArray e)):=by
 obtain⟨v1,w1,hr,h1,h2,h3,h4⟩:=DG (P:=P) d base t o.type e z bytes ht J hz j O v xs p cs ok okp hp F E HO HB C hl;rw[if_pos hw];unfold Oper.wp execOp;simp only[ho,resolve,invoke,builtin,Sem.run_bind,Sem.run_pure,Result.andThen_ok,List.map_toArray,List.map_cons,List.map_nil,hs,hx,hr];exact h v1 w1 h1 h2 h3 h4
end
end Kd
namespace Kd
section
variable {α:Type} {d:Kd α} {e e':Nat} {w w1 W:World} {base:Nat} {ok:Nat->Prop} {u v:Value} {xs:List α}
theorem dO(h:d.R e w base ok v xs):∀k,v.ownBlock=some k->∃cells,w.heap[k]?=some (.cells cells e (0,0)):=by
 obtain⟨inner,ho⟩:=qq h;exact fun k hk=>rV ho k hk
theorem dM(h:d.R e W base ok u xs)(l:∀k,v.ownBlock=some k->∃cells,W.heap[k]?=some (.cells cells e' (0,0)))(ht:∀q,q∈e::d.E->q≠e')(hg:W.grownBy w1 v.ownBlock):d.R e w1 base ok u xs:=by
 refine ag (oe (hU h) (fun k hk=>hg.block k hk.2.2.1 (fun he=>?_))) (fun _ hk=>hk.1);obtain⟨_,_,_,q,hq,cells,hc⟩:=hk;obtain⟨f,j⟩:=l k he.symm;rw[hc]at j;injection j with j;injection j with _ j;exact ht q hq j
theorem rO(h:d.R e W base ok u xs)(l:∀k,v.ownBlock=some k->∃cells,W.heap[k]?=some (.cells cells e' (0,0)))(ht:∀q,q∈e::d.E->q≠e'):d.R e W base (fun k=>ok k/\some k≠v.ownBlock) u xs:=by
 refine ag (hU h) (fun k hk=>⟨hk.1,fun he=>?_⟩);obtain⟨_,_,_,q,hq,cells,hc⟩:=hk;obtain⟨f,j⟩:=l k he.symm;rw[hc]at j;injection j with j;injection j with _ j;exact ht q hq j
theorem aC(hu:d.R e W base ok u xs)(C:∀k,v.ownBlock=some k->W.heap.size<=k)(hb:Below W.heap.size W w1):d.R e w1 base (fun k=>ok k/\some k≠v.ownBlock) u xs:=
 ag (oe (hU hu) (fun k hk=>hb.block k hk.2.2.1)) (fun k hk=>⟨hk.1,fun he=>by have:=C k he.symm;have:=hk.2.2.1;omega⟩)
theorem ax(h:d.R e w1 W.heap.size ok v xs)(hlt:∀k,u.ownBlock=some k->k<W.heap.size):d.R e w1 W.heap.size (fun k=>ok k/\some k≠u.ownBlock) v xs:=
 ag (hU h) (fun k hk=>⟨hk.1,fun he=>by have:=hlt k he.symm;have:=hk.2.1;omega⟩)
theorem nM(hu:d.Q e W base ok u xs)(C:∀k,v.ownBlock=some k->W.heap.size<=k)(hb:Below W.heap.size W w1):d.Q e w1 base (fun k=>ok k/\some k≠v.ownBlock) u xs:=
 bX (tJ (oQ hu) (fun k hk=>hb.block k hk.2.2.1)) (fun k hk=>⟨hk.1,fun he=>by have:=C k he.symm;have:=hk.2.2.1;omega⟩)
theorem be(hlt:∀k,u.ownBlock=some k->k<W.heap.size):∀k,W.heap.size<=k->some k≠u.ownBlock:=fun k hk he=>by have:=hlt k he.symm;omega
theorem rC(h:d.Q e w base ok v xs):v.ownBlock=none\/∃k,v.ownBlock=some k/\base<=k:=by
 cases hv:v.ownBlock with
 |none=>exact .inl rfl
 |some k=>exact .inr ⟨k,rfl,Gp h k hv⟩
end
end Kd
theorem Gv{n c g:Nat}{A:Option Addr}(B:some g≠(Value.slice A n c).ownBlock):∀ad,A=some ad->0<n->ad.block≠g:=by
 rintro ad rfl _ rfl;exact B (by simp[Value.ownBlock])
theorem kO{α:Type}(a seg:List α)(o:Nat)(h:o+seg.length<=a.length)(q:Nat):
 (a.take o++seg++a.drop (o+seg.length))[q]?=if q<o then a[q]? else if q<o+seg.length then seg[q-o]? else a[q]?:=by
 have hl:(a.take o).length=o:=by rw[List.length_take];omega
 rw[List.append_assoc];by_cases h1:q<o
 ·rw[if_pos h1,List.getElem?_append_left (by omega),List.getElem?_take,if_pos h1]
 · rw[if_neg h1,List.getElem?_append_right (by omega),hl]
   by_cases h2:q<o+seg.length
   ·rw[if_pos h2,List.getElem?_append_left (by omega)]
   · rw[if_neg h2,List.getElem?_append_right (by omega),List.getElem?_drop]
     congr 1;omega
namespace Kd
section
variable {α:Type} {d:Kd α} {e base g n G:Nat} {ok okp:Nat->Prop} {W:World} {xs:List α}
theorem vk(h:d.R e W base ok (.slice (some ⟨g,0,none⟩) n G) xs)(z:α)(i:Int)(h0:0<=i)(h1:i<n):
 ∃c,c.length=d.sz/\d.M W base (fun k=>ok k/\k≠g) (xs.getD i.toNat z) c/\(∀j u,c[j]?=some u->W.cell? ⟨g,i.toNat*d.sz+j,none⟩=some u)/\∀j,W.frozen? ⟨g,i.toNat*d.sz+j,none⟩=false:=by
 obtain⟨hn,f,hC⟩:=am h;obtain⟨_,inner,ho,hr⟩:=h;have s:i.toNat<xs.length:=by omega
 have O:i.toNat*d.sz+d.sz<=inner.length:=by rw[hr.1,<-Nat.succ_mul];exact Nat.mul_le_mul_right _ s
 have hM:=hr.2 i.toNat _ (List.getElem?_eq_getElem s);refine⟨(inner.drop (i.toNat*d.sz)).take d.sz,by rw[List.length_take,List.length_drop];omega,?_,fun j u hu=>?_,fun j=>?_⟩
 · rw[List.getD_eq_getElem?_getD,List.getElem?_eq_getElem s]
   exact d.M_mono (fun k hk=>⟨hk.1,fun he=>hk.2 (by rw[he];simp[Value.ownBlock])⟩) hM
 · rw[List.getElem?_take]at hu
   split at hu
   · rw[List.getElem?_drop]at hu
     have:=ho.cells (g:=g) (by simp[Value.ownBlock]) _ u hu
     rwa [add_plain]at this
   ·cases hu
 · obtain⟨cells,hc⟩:=rV ho g (by simp[Value.ownBlock])
   exact dC hc _
theorem EL(h:d.R e W base ok (.slice (some ⟨g,0,none⟩) n G) xs)(i:Int)(h0:0<=i)(h1:i<n){c seg:List Value}{j:Nat}(L:c.length=d.sz)(t:∀j u,c[j]?=some u->W.cell? ⟨g,i.toNat*d.sz+j,none⟩=some u)
 (hj:j+seg.length<=d.sz){x':α}(hM:d.M W base okp x' (c.take j++seg++c.drop (j+seg.length)))(F:∀k,okp k->ok k/\k≠g):
 d.R e (W.setCells g (i.toNat*d.sz+j) seg) base ok (.slice (some ⟨g,0,none⟩) n G) (xs.set i.toNat x')/\W.grownBy (W.setCells g (i.toNat*d.sz+j) seg) (some g):=by
 obtain⟨hn,f,_⟩:=am h;obtain⟨r,inner,ho,hr⟩:=h;have s:i.toNat<xs.length:=by omega
 have O:i.toNat*d.sz+d.sz<=inner.length:=by rw[hr.1,<-Nat.succ_mul];exact Nat.mul_le_mul_right _ s
 have hin:inner.length=n*d.sz:=by rw[hr.1,hn]
 obtain⟨ho1,eg⟩:=ho;rcases eg with⟨hv,_⟩|⟨g',S,l,hv,hb,hh,V,B,E,ht⟩
 ·cases hv
 injection hv with ha _ hc;injection ha with ha;injection ha with hg;subst hg;subst hc
 have T:i.toNat*d.sz+j+seg.length<=l.size:=by
  have:n*d.sz<=G*d.sz:=Nat.mul_le_mul_right _ f;omega
 obtain⟨I,h3,h4,h5⟩:=sj seg (i.toNat*d.sz+j) W l hh T;obtain⟨s1,s2,s3,s4⟩:=qX g seg (i.toNat*d.sz+j) W;have N:∀k,k≠g->(W.setCells g (i.toNat*d.sz+j) seg).heap[k]?=W.heap[k]?:=fun k hk=>sw seg _ k hk
 have z:∀q,q<d.sz->c[q]?=inner[i.toNat*d.sz+q]?:=by
  intro q hq;have hq':q<c.length:=by omega
  have h6:=t q _ (List.getElem?_eq_getElem hq');rw[cell_of_row W g _ l e (0,0) hh]at h6;rw[List.getElem?_eq_getElem hq',<-h6,<-ht,List.getElem?_take,if_pos (by rw[<-hn];omega),Array.getElem?_toList]
 refine⟨⟨r,inner.take (i.toNat*d.sz+j)++seg++inner.drop (i.toNat*d.sz+j+seg.length),⟨?_,.inr ⟨g,G,I,by rw[List.length_set,hn],hb,h3,by rw[List.length_set,<-hn];exact f,B,by rw[h4,E],?_⟩⟩,?_⟩,
  ⟨s1,s2,s3,by rw[s4];exact Nat.le_refl _,fun k _ hk=>N k (fun he=>hk (by rw[he]))⟩⟩
 · rw[List.length_set]
   simp only[List.length_append,List.length_take,List.length_drop];rw[hr.1]at O ⊢;omega
 · rw[List.length_set,<-hn]
   apply List.ext_getElem?;intro q;rw[List.getElem?_take,h5];rw[kO l.toList seg (i.toNat*d.sz+j) (by rw[Array.length_toList];omega) q,kO inner seg (i.toNat*d.sz+j) (by omega) q]
   have U:∀q,q<n*d.sz->l.toList[q]?=inner[q]?:=by
    intro q hq;rw[<-ht,List.getElem?_take,if_pos (by rw[<-hn];exact hq)]
   by_cases hq:q<n*d.sz
   ·rw[if_pos hq,U q hq]
   ·rw[if_neg hq,if_neg (by omega),if_neg (by omega),List.getElem?_eq_none (by omega)]
 · refine⟨?_,fun m p hm=>?_⟩
   · rw[List.length_set]
     simp only[List.length_append,List.length_take,List.length_drop];rw[hr.1]at O ⊢;omega
   · have C:m<xs.length:=by
      have:=(List.getElem?_eq_some_iff.1 hm).1
      rwa [List.length_set]at this
     have Y:m*d.sz+d.sz<=inner.length:=by rw[hr.1,<-Nat.succ_mul];exact Nat.mul_le_mul_right _ C
     have y:some g=(Value.slice (some ⟨g,0,none⟩) n G).ownBlock:=by simp[Value.ownBlock]
     by_cases hmi:m=i.toNat
     · subst hmi
       rw[List.getElem?_set_self (by omega)]at hm;injection hm with hm;subst hm
       have J:((inner.take (i.toNat*d.sz+j)++seg++inner.drop (i.toNat*d.sz+j+seg.length)).drop (i.toNat*d.sz)).take d.sz=c.take j++seg++c.drop (j+seg.length):=by
        apply List.ext_getElem?;intro q;rw[List.getElem?_take,List.getElem?_drop,kO inner seg _ (by omega),kO c seg j (by omega) q];by_cases hq:q<d.sz
        · rw[if_pos hq,z q hq]
          by_cases hq1:q<j
          ·rw[if_pos (by omega),if_pos hq1]
          · rw[if_neg (by omega),if_neg hq1]
            by_cases hq2:q<j+seg.length
            · rw[if_pos (by omega),if_pos hq2]
              congr 1;omega
            ·rw[if_neg (by omega),if_neg hq2]
        ·rw[if_neg hq,if_neg (by omega),if_neg (by omega),List.getElem?_eq_none (by omega)]
       rw[J];refine d.M_mono (fun k hk=>?_) (d.M_move (w1:=W.setCells g (i.toNat*d.sz+j) seg) (fun k hk=>N k (F k hk).2) hM);exact⟨(F k hk).1,fun he=>(F k hk).2 (by rw[<-y]at he;injection he)⟩
     · rw[List.getElem?_set_ne (by omega)]at hm
       have hold:=hr.2 m p hm
       have J:((inner.take (i.toNat*d.sz+j)++seg++inner.drop (i.toNat*d.sz+j+seg.length)).drop (m*d.sz)).take d.sz=(inner.drop (m*d.sz)).take d.sz:=by
        apply List.ext_getElem?;intro q;rw[List.getElem?_take,List.getElem?_take,List.getElem?_drop,List.getElem?_drop,kO inner seg _ (by omega)];by_cases hq:q<d.sz
        · rw[if_pos hq,if_pos hq]
          rcases Nat.lt_or_gt_of_ne hmi with hlt|H
          · have:m*d.sz+d.sz<=i.toNat*d.sz:=by rw[<-Nat.succ_mul];exact Nat.mul_le_mul_right _ hlt
            rw[if_pos (by omega)]
          · have:i.toNat*d.sz+d.sz<=m*d.sz:=by rw[<-Nat.succ_mul];exact Nat.mul_le_mul_right _ H
            rw[if_neg (by omega),if_neg (by omega)]
        ·rw[if_neg hq,if_neg hq]
       rw[J];refine d.M_move (fun k hk=>N k (fun he=>hk.2 (by rw[he];exact y))) hold
end
end Kd
namespace Kd
def fixed{α:Type}(d:Kd α)(w0:World):Kd α where
 sz:=d.sz
 E:=[]
 K:=fun _ x cs=>d.K w0 x cs
 M:=fun _ _ _ x cs=>d.K w0 x cs
 K_len:=d.K_len
 K_one:=d.K_one
 K_below:=fun _ h=>h
 K_of_M:=fun h=>h
 M_mono:=fun _ h=>h
 M_bound:=fun h=>h
 M_move:=fun _ h=>h
 M_lower:=fun _ h=>h
def D8{α:Type}(a b:Kd α)(h:b.sz=a.sz):Kd α where
 sz:=a.sz
 E:=a.E++b.E
 K:=fun w x cs=>a.K w x cs\/b.K w x cs
 M:=fun w base ok x cs=>a.M w base ok x cs\/b.M w base ok x cs
 K_len:=fun hk=>hk.elim a.K_len (fun hk=>(b.K_len hk).trans h)
 K_one:=fun hk=>hk.elim a.K_one b.K_one
 K_below:=fun hb hk=>hk.imp (a.K_below hb) (b.K_below hb)
 K_of_M:=fun hk=>hk.imp a.K_of_M b.K_of_M
 M_mono:=fun r hk=>hk.imp (a.M_mono r) (b.M_mono r)
 M_bound:=fun hk=>hk.imp
  (fun hk=>a.M_mono (fun _ ⟨h1,h2,h3,q,hq,hc⟩=>⟨h1,h2,h3,q,List.mem_append_left _ hq,hc⟩) (a.M_bound hk))
  (fun hk=>b.M_mono (fun _ ⟨h1,h2,h3,q,hq,hc⟩=>⟨h1,h2,h3,q,List.mem_append_right _ hq,hc⟩) (b.M_bound hk))
 M_move:=fun hm hk=>hk.imp (a.M_move hm) (b.M_move hm)
 M_lower:=fun hb hk=>hk.imp (a.M_lower hb) (b.M_lower hb)
def mix{α:Type}(e:Nat)(d dm:Kd α)(w0:World):Kd (List α):=D8 (fixed (slice e d) w0) (slice e dm) rfl
end Kd
namespace Kd
theorem Ix{α:Type}{R:α->List Value->Prop}{size:Nat}{ps qs:List α}{cs ds:List Value}(h:aD R size ps cs)(h':aD R size qs ds):aD R size (ps++qs) (cs++ds):=by
 refine⟨by rw[List.length_append,List.length_append,h.1,h'.1,Nat.add_mul],fun j p hj=>?_⟩;rcases Nat.lt_or_ge j ps.length with hlt|f
 · rw[List.getElem?_append_left hlt]at hj
   have T:j*size+size<=cs.length:=by rw[h.1,<-Nat.succ_mul];exact Nat.mul_le_mul_right _ hlt
   rw[List.drop_append_of_le_length (by omega),List.take_append_of_le_length (by rw[List.length_drop];omega)];exact h.2 j p hj
 · rw[List.getElem?_append_right f]at hj
   have h2:=h'.2 (j-ps.length) p hj;have T:ps.length*size<=j*size:=Nat.mul_le_mul_right _ f;rw[List.drop_append,List.drop_eq_nil_of_le (by rw[h.1];exact T),List.nil_append,h.1,<-Nat.sub_mul];exact h2
end Kd
theorem aK{w W:World}(h:Below w.heap.size w W):w.heap.size<=W.heap.size:=h.size
theorem bh{w W w2:World}(h:Below w.heap.size w W)(k:Below W.heap.size W w2):Below w.heap.size w w2:=HJ h h.size k
theorem eT.nil(W:World)(k:IntKind):eT W k none ([]:List Int).length []:=⟨rfl,by simp,fun h=>absurd h (Nat.lt_irrefl 0)⟩
theorem eT.drewN{W:World}{k:IntKind}{A:Option Addr}{n:Nat}{xs:List Int}(h:eT W k A n xs)(m:Nat):eT (W.drewN m) k A n xs:=h
theorem eT.ofRow{k:IntKind}{w:World}{a:Option Addr}{len G:Nat}{zs:List Int}(h:(a=none/\len=0/\G=0/\zs=[])\/∃x,a=some x/\len<=G/\G<=maxLen/\zs.length=G/\(∀i,i<zs.length->w.cell? (x.add i)=some (.int k (zs.getD i 0)))/\∀n∈zs,(Lit.int k n).wf=true):
 ∃l:List Int,len=l.length/\eT w k a l.length l/\l.length<=maxLen/\∀x∈l,(Lit.int k x).wf=true:=by
 rcases h with⟨rfl,rfl,rfl,rfl⟩|⟨x,rfl,hl,hm,hz,hc,hw⟩
 ·exact⟨[],rfl,eT.nil _ _,Nat.zero_le _,fun x hx=>by simp at hx⟩
 · have e:(zs.take len).length=len:=by simp;omega
   have hm':len<=maxLen:=Nat.le_trans hl hm;refine⟨zs.take len,e.symm,⟨rfl,by rw[e];simpa [maxLen]using hm',fun _=>⟨x,rfl,fun j hj=>?_⟩⟩,by rw[e];exact hm',fun y hy=>hw y (List.mem_of_mem_take hy)⟩;rw[e]at hj;rw[hc j (by omega)];simp[List.getD,List.getElem?_take,hj]
theorem aN{w W:World}{g j:Nat}{v:Value}(h:Below w.heap.size w W)(hg:w.heap.size<=g):Below w.heap.size w (W.setCell ⟨g,j,none⟩ v):=h.setCell hg _
theorem fz{w W:World}{g:Nat}{row:Option Nat}(h:aG w W g row)(m:Nat):aG w (W.drewN m) g row:=h
theorem fF{w W:World}{g:Nat}(h:aG w W g none)(o:Obj):aG w (W.alloc o) g none:=h.trans (aG.kx (World.grownBy_alloc W o none) g) (.inl rfl)
theorem tH{w W:World}{g:Nat}(h:aG w W g none){a:Addr}{v:Value}(hc:w.cell? a=some v)(B:a.block≠g):W.cell? a=some v:=by
 have:=h.2 a.block (World.block_lt_of_cell? w a hc) B (by simp);simpa [World.cell?,this]using hc
theorem add_block(a:Addr)(i:Nat):(a.add i).block=a.block:=by unfold Addr.add;split<;>rfl
theorem qP{w0 w w1:World}{B:Nat}(h:Below w0.heap.size w0 w)(hB:w0.heap.size<=B)(k:Below B w w1):Below w0.heap.size w0 w1:=
 h.trans ⟨k.os,k.tape,k.output,k.size,fun i hi=>k.block i (Nat.lt_of_lt_of_le hi hB)⟩
theorem Fi{w:World}{base:Nat}{e:TypeId}{size n:Nat}{v:Value}{xs:List Value}(h:w.ownsRow base e size v n xs):v.ownBlock=none\/∃b,v.ownBlock=some b/\base<=b:=by
 cases hv:v.ownBlock with
 |none=>exact .inl rfl
 |some b=>exact .inr ⟨b,rfl,o5 h b hv⟩
theorem jP{w W:World}{g:Nat}{row:Option Nat}(h:aG w W g row):w.heap.size<=W.heap.size:=h.1
theorem eL.nil{α:Type}(enc:α->Value)(d:α)(W:World):eL enc d W none ([]:List α).length []:=⟨rfl,by simp,fun h=>absurd h (Nat.lt_irrefl 0)⟩
theorem eL.drewN{α:Type}{enc:α->Value}{d:α}{W:World}{A:Option Addr}{n:Nat}{xs:List α}(h:eL enc d W A n xs)(m:Nat):eL enc d (W.drewN m) A n xs:=h
theorem eT.keep{w W:World}{k:IntKind}{A:Option Addr}{n g:Nat}{xs:List Int}(h:eT w k A n xs)(hk:aG w W g none)(hf:∀ad,A=some ad->0<n->ad.block≠g):eT W k A n xs:=
 ⟨h.1,h.2.1,fun hn=>by
   obtain⟨ad,e,hc⟩:=h.2.2 hn;exact⟨ad,e,fun j hj=>tH hk (hc j hj) (by rw[add_block];exact hf ad e hn)⟩⟩
theorem eL.keep{α:Type}{enc:α->Value}{d:α}{w W:World}{A:Option Addr}{n g:Nat}{xs:List α}(h:eL enc d w A n xs)(hk:aG w W g none)(hf:∀ad,A=some ad->0<n->ad.block≠g):eL enc d W A n xs:=
 ⟨h.1,h.2.1,fun hn=>by
   obtain⟨ad,e,hc⟩:=h.2.2 hn;exact⟨ad,e,fun j hj=>tH hk (hc j hj) (by rw[add_block];exact hf ad e hn)⟩⟩
theorem cell_far{W:World}{p a:Addr}(h:a.block≠p.block)(u:Value):(W.setCell p u).cell? a=W.cell? a:=by
 have:=Below.heap_setCell W p u a.block h;simp[World.cell?,this]
theorem bl{w:World}{g:Nat}{t:TypeId}{cs f:Array Value}(h:w.heap[g]?=some (.cells cs t (0,0)))(i:Nat)(u:Value)(e:cs.setIfInBounds i u=f):(w.setCell ⟨g,i,none⟩ u).heap[g]?=some (.cells f t (0,0)):=e▸si h i u
theorem dF{w W:World}{g:Nat}{row:Option Nat}(h:aG w W g row){p:Addr}(hp:w.heap.size<=p.block)(u:Value):aG w (W.setCell p u) g row:=
 ⟨by simpa [World.setCell]using h.1,fun i hi hg hr=>(Below.heap_setCell W p u i (by omega)).trans (h.2 i hi hg hr)⟩
theorem ou{W:World}{base n c:Nat}{e:TypeId}{size g:Nat}{ad:Addr}{xs:List Value}(_:W.ownsRow base e size (.slice (some ad) n c) n xs)(B:some g≠(Value.slice (some ad) n c).ownBlock):ad.block≠g:=by
 rintro rfl;exact B (by simp[Value.ownBlock])
theorem eT.FO{k:IntKind}{w:World}{a:Option Addr}{len G:Nat}{zs:List Int}(h:(a=none/\len=0/\G=0/\zs=[])\/∃x,a=some x/\len<=G/\G<=maxLen/\zs.length=G/\(∀i,i<zs.length->w.cell? (x.add i)=some (.int k (zs.getD i 0)))/\∀n∈zs,(Lit.int k n).wf=true):
 ∃l:List Int,len=l.length/\eT w k a l.length l/\l.length<=maxLen/\(∀x∈l,(Lit.int k x).wf=true)/\l.length<=G:=by
 have hl:len<=G:=by
  rcases h with⟨_,rfl,rfl,_⟩|⟨_,_,h,_⟩
  ·exact Nat.le_refl _
  ·exact h
 obtain⟨l,e,h1,h2,h3⟩:=eT.ofRow h;exact⟨l,e,h1,h2,h3,e▸hl⟩
theorem cK{base:Nat}{w W:World}(h:Below base w W):Below base w W.drew:=h.drew
theorem eW{w W:World}{g:Nat}{row:Option Nat}(h:aG w W g row):aG w W.drew g row:=h
namespace Kd
section
variable {α β:Type} {d:Kd α} {d':Kd β} {e e' base base' n:Nat} {ok ok':Nat->Prop} {w W w1 W1:World} {v u:Value} {xs:List α} {ys:List β} {A:Option Addr} {c:Nat}
theorem ou{ad:Addr}{g:Nat}(B:some g≠(Value.slice (some ad) n c).ownBlock):ad.block≠g:=by
 rintro rfl;exact B (by simp[Value.ownBlock])
theorem tt(h:d.R e w base ok v xs):v.ownBlock=none\/∃k,v.ownBlock=some k/\base<=k:=by
 obtain⟨inner,ho⟩:=qq h;exact Fi ho
end
end Kd
namespace Kd
section
variable {α:Type} {d:Kd α} {e base g:Nat} {ok:Nat->Prop} {w w1:World} {v:Value} {xs:List α} {o:Obj}
theorem xW(hb:w.heap[g]?=some o):∀k,w.heap.size<=k->k≠g:=fun k hk=>by have:=lL hb;omega
end
end Kd
section
variable {P:Program} {D:Array Oper} {rest:List Oper} {o:Oper} {a:Act} {Q:Exit->Act->World->Prop}
theorem Hs{W:World}(db:o.guard=none){N:Tmp}(l:o.dst=some N){cs:Array Value}{t:TypeId}
 (cG:(execOp a.eval o).run P W= .ok (.value (.pointer (some ⟨W.heap.size,0,none⟩))) (W.alloc (.cells cs t (0,0))))
 (h:∀g,g=W.heap.size->∀w1,w1.heap[g]?=some (.cells cs t (0,0))->Below W.heap.size W w1->wpList P D Q rest (a.put o.dst (.pointer (some ⟨g,0,none⟩))) w1):wpList P D Q (o::rest) a W:=
 Kd.xP db cG (h _ rfl _ (uj W _) (bK (Below.refl _ _) _))
end
namespace Kd
section
variable {α:Type} {enc:α->Value} {h1:∀x,(enc x).oneCell'=true} {e base g n G:Nat} {ok:Nat->Prop} {W:World} {xs:List α}
theorem bm(d:α)(h:(scalar enc h1).R e W base ok (.slice (some ⟨g,0,none⟩) n G) xs)(i:Int)(h0:0<=i)(hi:i<n):W.cell? ⟨g,i.toNat,none⟩=some (enc (cP d xs i))/\W.frozen? ⟨g,i.toNat,none⟩=false:=by
 obtain⟨rfl,_⟩:=am h;exact DX d h i h0 hi
theorem jI(h:(scalar enc h1).R e W base ok (.slice (some ⟨g,0,none⟩) n G) xs)(i:Int)(x:α):(scalar enc h1).R e (W.setCell ⟨g,i.toNat,none⟩ (enc x)) base ok (.slice (some ⟨g,0,none⟩) n G) (xs.set i.toNat x):=by
 obtain⟨rfl,_⟩:=am h;exact(Au h i x).1
end
end Kd
section
variable {P:Program} {D:Array Oper} {rest:List Oper} {o:Oper} {a:Act} {Q:Exit->Act->World->Prop}
theorem Ga{W w1:World}(db:o.guard=none){t:TypeId}{p:Tmp}{v:Operand}(j:o.op= .store t (.tmp p) v)(hN:o.dst=none)
 (cG:(execOp a.eval o).run P W= .ok .skip w1)(h:∀w',w'=w1->wpList P D Q rest a w'):wpList P D Q (o::rest) a W:=by
 refine wpList_plain db fun K hK=>?_
 unfold Oper.wp;rw[cG];show K (a.put o.dst undef) w1;rw[hN];exact hK _ _ (h _ rfl)
end
namespace Kd
section
variable {α:Type} {enc:α->Value} {h1:∀x,(enc x).oneCell'=true} {e base g n G:Nat} {ok:Nat->Prop} {W:World} {xs:List α}
theorem cH(h:(scalar enc h1).R e W base ok (.slice (some ⟨g,0,none⟩) n G) xs)(i:Int)(x:α):(scalar enc h1).R e (W.setCell ⟨g,i.toNat,none⟩ (enc x)) base ok (.slice (some ⟨g,0,none⟩) n G) (xs.set i.toNat x)/\W.grownBy (W.setCell ⟨g,i.toNat,none⟩ (enc x)) (some g):=by
 obtain⟨rfl,_⟩:=am h;exact Au h i x
end
end Kd
section
variable {P:Program} {D:Array Oper} {rest:List Oper} {o:Oper} {a:Act} {Q:Exit->Act->World->Prop} {W:World}
end
section
variable {P:Program} {D:Array Oper} {o:Oper} {a:Act} {Q:Exit->Act->World->Prop} {Kc:Act->World->Prop}
theorem zV{W w1:World}{v:Value}(hw:Region.wanted o (yielded D a.tmps)=true)(cG:(execOp a.eval o).run P W= .ok (.value v) w1)(h:Kc (a.put o.dst v) w1):if Region.wanted o (yielded D a.tmps)=true then Oper.wp P o a W Kc Q else Kc (a.put o.dst undef) W:=by
 rw[if_pos hw];unfold Oper.wp;rw[cG];exact h
theorem lT{W:World}(hw:Region.wanted o (yielded D a.tmps)=true){N:Tmp}(l:o.dst=some N){cs:Array Value}{t:TypeId}
 (cG:(execOp a.eval o).run P W= .ok (.value (.pointer (some ⟨W.heap.size,0,none⟩))) (W.alloc (.cells cs t (0,0))))
 (h:∀g,g=W.heap.size->∀w1,w1.heap[g]?=some (.cells cs t (0,0))->Below W.heap.size W w1->Kc (a.put o.dst (.pointer (some ⟨g,0,none⟩))) w1):if Region.wanted o (yielded D a.tmps)=true then Oper.wp P o a W Kc Q else Kc (a.put o.dst undef) W:=
 zV hw cG (h _ rfl _ (uj W _) (bK (Below.refl _ _) _))
namespace Kd
variable {α:Type}
theorem iu(d:Kd α){w0 W:World}(base e:Nat)(hw:Region.wanted o (yielded D a.tmps)=true){N:Tmp}(l:o.dst=some N){xs:List α}{inner:List Value}{ok okp:Nat->Prop}
 (cG:(execOp a.eval o).run P W= .ok (.value (.slice (some ⟨W.heap.size,0,none⟩) xs.length xs.length)) (W.alloc (.cells inner.toArray e)))
 (f:aD (d.M W base okp) d.sz xs inner)(r:∀k,okp k->ok k)(E:ok W.heap.size)(HB:Below base w0 W)(C:base<=W.heap.size)(hm:xs.length<=9223372036854775807)
 (h:∀v1 w1,d.R e w1 base ok v1 xs->Below base w0 w1->W.grownBy w1 none->(∃b,v1.ownBlock=some b/\W.heap.size<=b)->Kc (a.put o.dst v1) w1):if Region.wanted o (yielded D a.tmps)=true then Oper.wp P o a W Kc Q else Kc (a.put o.dst undef) W:=by
 refine zV hw cG (h _ _ ⟨fun k hk=>?_,inner,?_,?_⟩ (HB.alloc C _) (World.grownBy_alloc W _ none) ⟨W.heap.size,by simp[Value.ownBlock],Nat.le_refl _⟩)
 · have:W.heap.size=k:=by simpa [Value.ownBlock]using hk
   subst this;exact E
 · have h2:=World.ownsRow_lit (base:=base) (e:=e) (size:=d.sz) W inner.toArray xs.length C (by simpa [maxLen]using hm) (by simpa using f.1)
   simpa using h2
 · refine f.dW (fun p c hp=>d.M_mono (fun k hk=>⟨r k hk.1,fun he=>?_⟩) (zE (d.M_bound hp) (bK (Below.refl _ _) _)))
   have h3:k=W.heap.size:=by simpa [Value.ownBlock]using he
   have:=hk.2.2.1;omega
theorem hD(d:Kd α){w0 W:World}(base e:Nat)(hw:Region.wanted o (yielded D a.tmps)=true){N:Tmp}(hd:o.dst=some N)(t:TypeId)(x y:Operand)(ho:o.op= .makeSlice t x y)(n:Int)(hx:a.eval x= .int .i64 n)(hy:a.eval y= .int .i64 n)
 (ht:P.underlying t=some (.slice e))(z:Value)(bytes:Nat)(J:(P.info? e).map (fun i=>(i.zero,i.size,i.bytes))=some (some z,d.sz,bytes))(hz:z.cells.size=d.sz)(j:0<d.sz)(O:0<bytes)
 (z0:α){ok okp:Nat->Prop}(f:d.M W base okp z0 z.cells.toList)(r:∀k,okp k->ok k)(E:ok W.heap.size)(h0:0<=n)(hl:n.toNat*bytes<=281474976710656)(HB:Below base w0 W)(C:base<=W.heap.size)
 (h:∀v1 w1,d.R e w1 base ok v1 (List.replicate n.toNat z0)->Below base w0 w1->W.grownBy w1 none->(∃b,v1.ownBlock=some b/\W.heap.size<=b)->Kc (a.put o.dst v1) w1):if Region.wanted o (yielded D a.tmps)=true then Oper.wp P o a W Kc Q else Kc (a.put o.dst undef) W:=by
 obtain⟨m,rfl⟩:=Int.eq_ofNat_of_zero_le h0;simp only[Int.toNat_natCast]at hl h;obtain⟨i0,hi,S⟩:=Option.map_eq_some_iff.1 J;simp only[Prod.mk.injEq]at S;obtain⟨I,U,V⟩:=S;have hm:m<=281474976710656:=Nat.le_trans (Nat.le_mul_of_pos_right _ O) hl
 have hr:=run_make (P:=P) W t e i0 z ht hi I .i64 .i64 (m:Int) (m:Int) (by omega) (by omega)
  (by
    have h3:((i0.bytes*m:Nat):Int)<=281474976710656:=by rw[V,Nat.mul_comm];omega
    rwa [Int.natCast_mul]at h3) (by omega)
 simp only[Int.toNat_natCast]at hr;rw[U]at hr;refine iu d base e hw hd (xs:=List.replicate m z0) (inner:=(madeCells z.cells (m*d.sz)).toList) (okp:=okp) (ok:=ok) ?_ (xQ hz j f m) r E HB C (by simp;omega) h;simp[execOp,ho,hx,hy,hr]
theorem Al(d:Kd α){Rr:α->List Value->Prop}{w0 W:World}(base:Nat)(hw:Region.wanted o (yielded D a.tmps)=true)(s x:Operand)(t e:TypeId)(z:Value)(bytes:Nat)
 (ho:o.op= .call {callee:=.builtin .append,args:=#[s,x],argTypes:=#[t,t]})
 (ht:P.underlying t=some (.slice e))(J:(P.info? e).map (fun i=>(i.zero,i.size,i.bytes))=some (some z,d.sz,bytes))(hz:z.cells.size=d.sz)(j:0<d.sz)(O:0<bytes)
 (v:Value)(xs ys:List α)(A:Option Addr)(m c:Nat)(ok okp:Nat->Prop)(hs:a.eval s=v)(hx:a.eval x= .slice A m c)
 (HO:d.R e W base ok v xs)(HR:iC Rr d.sz W A m ys)(Z:∀x cs,Rr x cs->d.M W base okp x cs)(F:∀k,okp k->ok k/\some k≠v.ownBlock)(E:∀k,W.heap.size<=k->ok k)
 (HB:Below base w0 W)(C:base<=W.heap.size)(hl:(xs.length+m)*bytes<=140737488355328)
 (h:∀v1 w1,d.R e w1 base ok v1 (xs++ys)->Below base w0 w1->W.grownBy w1 v.ownBlock->(v1.ownBlock=v.ownBlock\/∃b,v1.ownBlock=some b/\W.heap.size<=b)->Kc (a.put o.dst v1) w1):
 if Region.wanted o (yielded D a.tmps)=true then Oper.wp P o a W Kc Q else Kc (a.put o.dst undef) W:=by
 obtain⟨i0,hi,S⟩:=Option.map_eq_some_iff.1 J;simp only[Prod.mk.injEq]at S;obtain⟨I,U,V⟩:=S;have hm:ys.length=m:=HR.1;have N:xs.length+m<=140737488355328:=Nat.le_trans (Nat.le_mul_of_pos_right _ O) hl;obtain⟨r,inner,y,hr⟩:=HO
 have cG:∃v1 w1,(Builtin.append_ #[t,t] o.type #[v,.slice A m c]).run P W= .ok v1 w1/\d.R e w1 base ok v1 (xs++ys)/\W.grownBy w1 v.ownBlock/\(v1.ownBlock=v.ownBlock\/∃b,v1.ownBlock=some b/\W.heap.size<=b):=by
  rcases A with _|ad
  · have h0:m=0:=by
     rcases Nat.eq_zero_or_pos m with h0|h0
     ·exact h0
     · obtain⟨ad,h,_⟩:=HR.2.2 h0
       cases h
    subst h0;obtain rfl:ys=[]:=List.eq_nil_of_length_eq_zero hm;refine⟨v,W,?_,by rw[List.append_nil];exact⟨r,inner,y,hr⟩,World.grownBy.refl W _,.inl rfl⟩;rcases y.2 with⟨rfl,hn⟩|⟨g,G,l,rfl,_,_,f,_⟩
    ·simp[Builtin.append_,run_underlying ht,sizeOf,typeInfo,hi,Builtin.lenOf,Builtin.firstCells]
    ·simp[Builtin.append_,run_underlying ht,sizeOf,typeInfo,hi,Builtin.lenOf,Builtin.firstCells,f,storeCells]
  · obtain⟨H,ae,f⟩:=iC.Ib HR
    have L:aD (d.M W base okp) d.sz ys H:=ae.dW (fun p c hp=>Z p c hp)
    have ac:∀u∈H,u.oneCell'=true:=by
     intro u hu;obtain⟨q,hq,rfl⟩:=List.mem_iff_getElem.1 hu
     have aa:q/d.sz<ys.length:=by
      rw[Nat.div_lt_iff_lt_mul j];rw[<-L.1];exact hq
     have hc:=L.2 (q/d.sz) _ (List.getElem?_eq_getElem aa);refine d.K_one (d.K_of_M hc) _ ?_;rw[List.mem_iff_getElem?];refine⟨q%d.sz,?_⟩;rw[List.getElem?_take,if_pos (Nat.mod_lt _ j),List.getElem?_drop,Nat.mul_comm,Nat.div_add_mod,List.getElem?_eq_getElem hq]
    obtain⟨v1,w1,cG,h2,hg,_,hat⟩:=run_append_own_at (P:=P) W base t o.type e i0 z d.sz bytes ht hi I U V hz j v xs.length inner y ad m c H (by rw[L.1,hm]) f ac (by simp only[maxLen];omega) hl C
    have Y:v1.ownBlock=v.ownBlock\/∃b,v1.ownBlock=some b/\W.heap.size<=b:=by
     rcases hat with hat|hat
     ·exact .inl hat
     ·exact .inr ⟨_,hat,Nat.le_refl _⟩
    have B:∀k,some k≠v.ownBlock->k<W.heap.size->some k≠v1.ownBlock:=by
     intro k hk hlt;rcases Y with hat|⟨b,hb,T⟩
     ·rw[hat];exact hk
     · rw[hb]
       intro he;injection he with he;omega
    have step:∀{q:α} {c:List Value} {o:Nat->Prop},d.M W base o q c->(∀k,o k->ok k/\some k≠v.ownBlock)->d.M w1 base (fun k=>ok k/\some k≠v1.ownBlock) q c:=by
     intro q c o hq ho;have h1:=d.M_move (w1:=w1) (fun k hk=>hg.block k hk.2.2.1 (ho k hk.1).2) (d.M_bound hq);exact d.M_mono (fun k hk=>⟨(ho k hk.1).1,B k (ho k hk.1).2 hk.2.2.1⟩) h1
    refine⟨v1,w1,cG,⟨fun k hk=>?_,inner++H,by rw[List.length_append,hm];exact h2,Ix (hr.dW (fun _ _ hq=>step hq (fun _ hk=>hk))) (L.dW (fun _ _ hq=>step hq F))⟩,hg,Y⟩;rcases Y with hat|⟨b,hb,T⟩
    ·exact r k (hat▸hk)
    · rw[hb]at hk
      injection hk with hk;exact E k (by omega)
 obtain⟨v1,w1,bj,h1,hg,hat⟩:=cG;rw[if_pos hw];unfold Oper.wp execOp;simp only[ho,resolve,invoke,builtin,Sem.run_bind,Sem.run_pure,Result.andThen_ok,List.map_toArray,List.map_cons,List.map_nil,hs,hx,bj];exact h v1 w1 h1 (HB.grown hg C (o5 y)) hg hat
end Kd
end
namespace Kd
section
variable {P:Program} {D:Array Oper} {rest:List Oper} {o:Oper} {a:Act} {Q:Exit->Act->World->Prop} {α:Type}
theorem F4(d:Kd α){Rr:α->List Value->Prop}{w0 W:World}(base:Nat)(db:o.guard=none)(s x:Operand)(t e:TypeId)(z:Value)(bytes:Nat)
 (ho:o.op= .call {callee:=.builtin .append,args:=#[s,x],argTypes:=#[t,t]})
 (ht:P.underlying t=some (.slice e))(J:(P.info? e).map (fun i=>(i.zero,i.size,i.bytes))=some (some z,d.sz,bytes))(hz:z.cells.size=d.sz)(j:0<d.sz)(O:0<bytes)
 (v:Value)(xs ys:List α)(A:Option Addr)(m c:Nat)(ok okp:Nat->Prop)(hs:a.eval s=v)(hx:a.eval x= .slice A m c)
 (HO:d.R e W base ok v xs)(HR:iC Rr d.sz W A m ys)(Z:∀x cs,Rr x cs->d.M W base okp x cs)(F:∀k,okp k->ok k/\some k≠v.ownBlock)(E:∀k,W.heap.size<=k->ok k)
 (HB:Below base w0 W)(C:base<=W.heap.size)(hl:(xs.length+m)*bytes<=140737488355328)
 (h:∀v1 w1,d.R e w1 base ok v1 (xs++ys)->Below base w0 w1->W.grownBy w1 v.ownBlock->(v1.ownBlock=v.ownBlock\/∃b,v1.ownBlock=some b/\W.heap.size<=b)->wpList P D Q rest (a.put o.dst v1) w1):
 wpList P D Q (o::rest) a W:=by
 refine wpList_plain db fun K hK=>?_
 have hw:Region.wanted o (yielded D a.tmps)=true:=by simp[Region.wanted,db]
 have:=Al (Q:=Q) (Kc:=K) d base hw s x t e z bytes ho ht J hz j O v xs ys A m c ok okp hs hx HO HR Z F E HB C hl (fun v1 w1 p1 p2 p3 p4=>hK _ _ (h v1 w1 p1 p2 p3 p4))
 rwa [if_pos hw]at this
end
end Kd
inductive Vals (P:Program) (tmps:Array Value) (w:World):List ResultVar->List Value->Prop where
 |nil:Vals P tmps w [] []
 |tmp {u:Tmp} {rs:List ResultVar} {vs:List Value} (h:Vals P tmps w rs vs):Vals P tmps w (.tmp u::rs) (tmps.getD u undef::vs)
 |cell {p:Tmp} {ty:TypeId} {rs:List ResultVar} {vs:List Value} (g:Nat) (t:TypeId) (cs:Array Value) (fr:Nat×Nat) (d:TypeDesc)
   (hp:tmps.getD p undef= .pointer (some ⟨g,0,none⟩))(hg:w.heap[g]?=some (.cells cs t fr))
   (hu:P.underlying ty=some d)(hd:(match d with|.struct _|.array _ _=>true|_=>false)=true)(hi:(P.info? ty).map (·.size)=some cs.size)
   (h:Vals P tmps w rs vs):Vals P tmps w (.cell p ty::rs) (.agg cs::vs)
end Go.Proofs.YtlpbalebodlipaaW.PrintWords
