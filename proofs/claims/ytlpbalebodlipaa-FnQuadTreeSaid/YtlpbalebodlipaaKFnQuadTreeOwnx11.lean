/- A part of the proof of FnQuadTree. There are no conditions. -/
import Derived.Test.YtlpbalebodlipaaKFnQuadTreeOwnx10
set_option linter.unusedVariables false
set_option linter.unusedSimpArgs false
set_option maxHeartbeats 0
namespace Go.Proofs.Ytlpbalebodlipaa.PL
open Go.RowKit Go.Proofs.YtlpbalebodlipaaW.PrintWords Go.Proofs.YtlpbalebodlipaaW.PrintLast Go.Proofs.YtlpbalebodlipaaW.PrintMore
def oO(l:List Int)(i:Nat):Prop:=0<=rd l i/\rd l i<l.length/\∀k:Nat,k<i->rd l k≠rd l i
def j6(l:List Int):Prop:=1<=l.length/\l.length<=12/\∀i:Nat,i<l.length->oO l i
theorem oq(a b c:Int):eS.f a b c=some (decide (b<=a/\a<=c)):=by
 unfold eS.f;by_cases h1:a>=b
 ·by_cases h2:a<=c<;>simp[h1,h2]
 ·simp[h1]
theorem CV(l:List Int)(hl:l.length<=1048576)(i:Nat)(hi:i<l.length):∀(d k:Nat),i-k=d->k<=i->
 ((∀q:Nat,k<=q->q<i->rd l q≠rd l i)->∀r,Ev (fun z=>dd.l0 z l ((i+1:Nat):Int)) r->Ev (fun z=>dd.l1 z l i k) r)/\
 (¬(∀q:Nat,k<=q->q<i->rd l q≠rd l i)->Ev (fun z=>dd.l1 z l i k) false)
 |0,k,hd,hk=>by
  refine⟨fun _ r h=>Ev.s ?_,fun h=>absurd (fun q h1 h2=>by omega) h⟩;simp only[dd.l1,show ¬(k:Int)<(i:Int) by omega,if_false];rw[w64 (x:=(i:Int)+1) ac ac,show((i:Int)+1)=((i+1:Nat):Int) by omega];exact h
 |d+1,k,hd,hk=>by
  have ih:=CV l hl i hi d (k+1) ac ac;have hw:wrap64 ((k:Int)+1)=((k+1:Nat):Int):=by rw[w64 ac ac];omega
  by_cases e:rd l k=rd l i
  · refine⟨fun h=>absurd e (h k (Nat.le_refl _) ac),fun h=>Ev.s ?_⟩
    simp only[dd.l1,show(k:Int)<(i:Int) by omega,show(0:Int)<=k by omega,show(k:Int)<(l.length:Int) by omega,show(0:Int)<=i by omega,show(i:Int)<(l.length:Int) by omega,e,if_true];exact Ev.const rfl
  · refine⟨fun h r hr=>Ev.s ?_,fun h=>Ev.s ?_⟩
    · simp only[dd.l1,show(k:Int)<(i:Int) by omega,show(0:Int)<=k by omega,show(k:Int)<(l.length:Int) by omega,show(0:Int)<=i by omega,show(i:Int)<(l.length:Int) by omega,e,if_true,if_false,hw]
      exact ih.1 (fun q h1 h2=>h q ac h2) r hr
    · simp only[dd.l1,show(k:Int)<(i:Int) by omega,show(0:Int)<=k by omega,show(k:Int)<(l.length:Int) by omega,show(0:Int)<=i by omega,show(i:Int)<(l.length:Int) by omega,e,if_true,if_false,hw]
      refine ih.2 fun h'=>h fun q h1 h2=>?_
      by_cases eq:q=k
      ·rw[eq];exact e
      ·exact h' q ac h2
theorem zN(l:List Int)(hl:l.length<=1048576):∀(d i:Nat),l.length-i=d->i<=l.length->
 ((∀q:Nat,i<=q->q<l.length->oO l q)->Ev (fun z=>dd.l0 z l i) (decide (1<=(l.length:Int)/\(l.length:Int)<=12)))/\
 (¬(∀q:Nat,i<=q->q<l.length->oO l q)->Ev (fun z=>dd.l0 z l i) false)
 |0,i,hd,hi=>by
  refine⟨fun _=>Ev.s ?_,fun h=>absurd (fun q h1 h2=>by omega) h⟩;simp only[dd.l0,show ¬(i:Int)<(l.length:Int) by omega,if_false,oq,Option.bind_some];exact Ev.const rfl
 |d+1,i,hd,hi=>by
  have hlt:i<l.length:=ac;have ih:=zN l hl d (i+1) ac ac;have hin:=CV l hl i hlt i 0 ac ac;have b:wrap64 ((l.length:Int)-1)=(l.length:Int)-1:=w64 ac ac;by_cases hr:0<=rd l i/\rd l i<=(l.length:Int)-1
  · by_cases hn:∀q:Nat,0<=q->q<i->rd l q≠rd l i
    · refine⟨fun h=>Ev.s ?_,fun h=>Ev.s ?_⟩
      · simp only[dd.l0,show(i:Int)<(l.length:Int) by omega,show(0:Int)<=i by omega,if_true,oq,Option.bind_some,b,hr,decide_true,and_self]
        exact hin.1 hn _ (ih.1 fun q h1 h2=>h q ac h2)
      · simp only[dd.l0,show(i:Int)<(l.length:Int) by omega,show(0:Int)<=i by omega,if_true,oq,Option.bind_some,b,hr,decide_true,and_self]
        refine hin.1 hn _ (ih.2 fun h'=>h fun q h1 h2=>?_);by_cases e:q=i
        ·rw[e];exact⟨hr.1,ac,fun k hk=>hn k ac hk⟩
        ·exact h' q ac h2
    · refine⟨fun h=>absurd (fun q _ h2=>(h i (Nat.le_refl _) hlt).2.2 q h2) hn,fun h=>Ev.s ?_⟩
      simp only[dd.l0,show(i:Int)<(l.length:Int) by omega,show(0:Int)<=i by omega,if_true,oq,Option.bind_some,b,hr,decide_true,and_self];exact hin.2 hn
  · refine⟨fun h=>absurd ⟨(h i (Nat.le_refl _) hlt).1,by have:=(h i (Nat.le_refl _) hlt).2.1;omega⟩ hr,fun h=>Ev.s ?_⟩
    simp only[dd.l0,show(i:Int)<(l.length:Int) by omega,show(0:Int)<=i by omega,if_true,oq,Option.bind_some,b,hr,decide_false,Bool.false_eq_true,if_false];exact Ev.const rfl
theorem uT(l:List Int)(hl:l.length<=12):∀(d i:Nat) (s:List Bool),l.length-i=d->i<=l.length->s.length=12->(∀v:Nat,v<12->(s.getD v false=true↔∃k:Nat,k<i/\rd l k=v))->
 ((∀q:Nat,i<=q->q<l.length->oO l q)->Ev (fun z=>cE.l0 z l s i) true)/\
 (¬(∀q:Nat,i<=q->q<l.length->oO l q)->Ev (fun z=>cE.l0 z l s i) false)
 |0,i,s,hd,hi,hs,hv=>by
  refine⟨fun _=>Ev.s ?_,fun h=>absurd (fun q h1 h2=>by omega) h⟩;simp only[cE.l0,show ¬(i:Int)<(l.length:Int) by omega,if_false];exact Ev.const rfl
 |d+1,i,s,hd,hi,hs,hv=>by
  have hlt:i<l.length:=ac;have C:l.length-(i+1)=d:=ac;have hw:wrap64 ((i:Int)+1)=((i+1:Nat):Int):=by rw[w64 ac ac];omega
  by_cases h0:rd l i<0
  · refine⟨fun h=>absurd (h i (Nat.le_refl _) hlt).1 ac,fun h=>Ev.s ?_⟩
    simp only[cE.l0,show(i:Int)<(l.length:Int) by omega,show(0:Int)<=i by omega,h0,if_true];exact Ev.const rfl
  · by_cases h1:rd l i>=(l.length:Int)
    · refine⟨fun h=>absurd (h i (Nat.le_refl _) hlt).2.1 ac,fun h=>Ev.s ?_⟩
      simp only[cE.l0,show(i:Int)<(l.length:Int) by omega,show(0:Int)<=i by omega,h0,h1,if_true,if_false];exact Ev.const rfl
    · have c:=hv (rd l i).toNat ac
      have j:(((rd l i).toNat:Nat):Int)=rd l i:=ac;rw[j]at c;by_cases h2:s.getD (rd l i).toNat false=true
      · obtain⟨k,hk,b⟩:=c.1 h2
        refine⟨fun h=>absurd b ((h i (Nat.le_refl _) hlt).2.2 k hk),fun h=>Ev.s ?_⟩;simp only[cE.l0,show(i:Int)<(l.length:Int) by omega,show(0:Int)<=i by omega,h0,h1,h2,if_true,if_false];exact Ev.const rfl
      · have m:∀k:Nat,k<i->rd l k≠rd l i:=fun k hk e=>h2 (c.2 ⟨k,hk,e⟩)
        have ih:=uT l hl d (i+1) (s.set (rd l i).toNat true) C hlt (by simpa using hs) (fun v o=>by
         by_cases ev:v=(rd l i).toNat
         · subst ev
           rw[List.getD_eq_getElem?_getD,List.getElem?_set_self ac];simp only[Option.getD_some,true_iff];exact⟨i,Nat.lt_succ_self i,j.symm⟩
         · rw[List.getD_eq_getElem?_getD,List.getElem?_set_ne (Ne.symm ev),<-List.getD_eq_getElem?_getD,hv v o]
           constructor
           ·rintro⟨k,hk,b⟩;exact⟨k,ac,b⟩
           · rintro⟨k,hk,b⟩
             by_cases e:k=i
             ·subst e;omega
             ·exact⟨k,ac,b⟩)
        refine⟨fun h=>Ev.s ?_,fun h=>Ev.s ?_⟩
        · simp only[cE.l0,show(i:Int)<(l.length:Int) by omega,show(0:Int)<=i by omega,h0,h1,h2,if_true,if_false,hw]
          exact ih.1 fun q g1 g2=>h q ac g2
        · simp only[cE.l0,show(i:Int)<(l.length:Int) by omega,show(0:Int)<=i by omega,h0,h1,h2,if_true,if_false,hw]
          refine ih.2 fun h'=>h fun q g1 g2=>?_
          by_cases e:q=i
          ·rw[e];exact⟨ac,ac,m⟩
          ·exact h' q ac g2
theorem sJ(l:List Int)(hl:l.length<=1048576):∃b:Bool,Ev (fun k=>dd.f k l) b/\Ev (fun k=>cE.f k l) b/\(b=true↔j6 l):=by
 unfold dd.f cE.f;have hs:=zN l hl l.length 0 ac ac;by_cases hall:∀q:Nat,0<=q->q<l.length->oO l q
 · refine⟨decide (1<=(l.length:Int)/\(l.length:Int)<=12),hs.1 hall,?_,?_⟩
   · by_cases h1:(l.length:Int)<1
     · simp only[h1,if_true]
       exact Ev.const (by congr 1;symm;rw[decide_eq_false_iff_not];omega)
     · by_cases h2:(l.length:Int)>12
       · simp only[h1,h2,if_true,if_false]
         exact Ev.const (by congr 1;symm;rw[decide_eq_false_iff_not];omega)
       · simp only[h1,h2,if_false]
         rw[decide_eq_true ac];refine(uT l ac l.length 0 _ ac ac ay fun v hv=>?_).1 hall;constructor
         · intro h
           rw[List.getD_eq_getElem?_getD,List.getElem?_replicate,if_pos hv]at h;cases h
         ·rintro⟨k,hk,_⟩;omega
   · rw[decide_eq_true_eq]
     exact⟨fun h=>⟨ac,ac,fun i hi=>hall i ac hi⟩,fun h=>⟨by have:=h.1;omega,by have:=h.2.1;omega⟩⟩
 · refine⟨false,hs.2 hall,?_,?_⟩
   · by_cases h1:(l.length:Int)<1
     ·simp only[h1,if_true];exact Ev.const rfl
     · by_cases h2:(l.length:Int)>12
       ·simp only[h1,h2,if_true,if_false];exact Ev.const rfl
       · simp only[h1,h2,if_false]
         refine(uT l ac l.length 0 _ ac ac ay fun v hv=>?_).2 hall;constructor
         · intro h
           rw[List.getD_eq_getElem?_getD,List.getElem?_replicate,if_pos hv]at h;cases h
         ·rintro⟨k,hk,_⟩;omega
   ·exact⟨fun h=>(by cases h),fun h=>absurd (fun q _ hq=>h.2.2 q hq) hall⟩
def eE(n:Nat):List Int:=(List.range n).map fun(i:Nat)=>(i:Int)
theorem og(n:Nat):(eE n).length=n:=by simp[eE]
theorem rD(n i:Nat)(h:i<n):rd (eE n) i=i:=by
 rw[dY _ _ (by rw[og];exact h)];simp[eE]
theorem EI(n:Nat):eE (n+1)=eE n++[(n:Int)]:=by simp[eE,List.range_succ]
theorem iE(l:List Int)(i:Nat)(v:Int)(h:i<l.length):rd (l.set i v) i=v:=by
 rw[dY _ _ (by simpa using h)];simp
theorem gV(l:List Int)(i j:Nat)(v:Int)(h:i≠j):rd (l.set i v) j=rd l j:=by
 unfold rd;rw[Int.toNat_natCast,List.getD_eq_getElem?_getD,List.getD_eq_getElem?_getD,List.getElem?_set_ne h]
theorem qy(l m:List Int)(i:Nat)(h:i<l.length):rd (l++m) i=rd l i:=by
 unfold rd;rw[Int.toNat_natCast,List.getD_eq_getElem?_getD,List.getD_eq_getElem?_getD,List.getElem?_append_left h]
theorem jV(a b:List Int)(h:a.length=b.length)(hr:∀i:Nat,i<a.length->rd a i=rd b i):a=b:=by
 refine List.ext_getElem h fun i h1 h2=>?_
 have:=hr i h1
 rwa [dY a i h1,dY b i h2]at this
theorem xY(n:Nat)(hn:n<=1048576):∀(d i:Nat),n-i=d->i<=n->Ev (fun k=>hY.l0 k n (eE i) i) (eE n)
 |0,i,hd,hi=>by
  refine Ev.s ?_;simp only[hY.l0,show ¬(i:Int)<(n:Int) by omega,if_false];have:i=n:=ac;subst this;exact Ev.const rfl
 |d+1,i,hd,hi=>by
  refine Ev.s ?_;simp only[hY.l0,show(i:Int)<(n:Int) by omega,if_true,og,show i<17592186044416 by omega];rw[w64 (x:=(i:Int)+1) ac ac,show((i:Int)+1)=((i+1:Nat):Int) by omega,<-EI];exact xY n hn d (i+1) ac ac
theorem Fa(n:Nat)(hn:n<=1048576):Ev (fun k=>hY.f k n) (eE n):=by
 unfold hY.f;exact xY n hn n 0 ac ac
theorem Cd(n:Nat)(hn:n<=1048576):∀(d i:Nat) (l:List Int),n-i=d->i<=n->l.length=n->l.take i=(eE n).take i->Ev (fun k=>dr.l0 k l n i) (eE n)
 |0,i,l,hd,hi,hl,ht=>by
  refine Ev.s ?_;simp only[dr.l0,show ¬(i:Int)<(n:Int) by omega,if_false];have:i=n:=ac;subst this;have e:(eE i).take i=eE i:=by rw[List.take_of_length_le];rw[og];exact Nat.le_refl _
  rw[e,List.take_of_length_le ac]at ht;exact Ev.const (by rw[ht])
 |d+1,i,l,hd,hi,hl,ht=>by
  have hlt:i<l.length:=ac;refine Ev.s ?_;simp only[dr.l0,show(i:Int)<(n:Int) by omega,show(0:Int)<=i by omega,show(i:Int)<(l.length:Int) by omega,if_true];rw[w64 (x:=(i:Int)+1) ac ac,show((i:Int)+1)=((i+1:Nat):Int) by omega,Int.toNat_natCast];refine Cd n hn d (i+1) _ ac ac (by simpa using hl) ?_;have h2:i<(eE n).length:=by rw[og];omega
  rw[List.take_succ_eq_append_getElem (by simpa using hlt),List.take_succ_eq_append_getElem h2,List.take_set_of_le (Nat.le_refl _),ht];simp[eE]
theorem GJ(n:Nat)(hn:n<=1048576):Ev (fun k=>dr.f k n) (eE n):=by
 unfold dr.f;have h1:n<=35184372088832:=ac;have h2:(0:Int)<=(n:Int):=ac;simp only[Int.toNat_natCast,h1,h2,if_true,Option.bind_some,List.length_replicate];exact Cd n hn n 0 _ ac ac ay ay
def inR(n:Nat)(p:List Int):Prop:=p.length=n/\∀i:Nat,i<n->0<=rd p i/\rd p i<n
def kW(ps:List (List Int))(n:Nat)(S:Nat->Prop):Prop:=∀p∈ps,∀k,k<n->(S k↔S (rd p k).toNat)
def Reach(ps:List (List Int))(n:Nat)(i j:Nat):Prop:=∀S,kW ps n S->(S i↔S j)
theorem Reach.refl(ps:List (List Int))(n i:Nat):Reach ps n i i:=fun S _=>Iff.rfl
theorem Reach.symm{ps:List (List Int)}{n i j:Nat}(h:Reach ps n i j):Reach ps n j i:=fun S c=>(h S c).symm
theorem Reach.trans{ps:List (List Int)}{n i j k:Nat}(h:Reach ps n i j)(h':Reach ps n j k):Reach ps n i k:=fun S c=>(h S c).trans (h' S c)
theorem Reach.step{ps:List (List Int)}{n:Nat}{p:List Int}(hp:p∈ps){k:Nat}(hk:k<n):Reach ps n k (rd p k).toNat:=fun S c=>c p hp k hk
def ju(ps:List (List Int))(n:Nat)(o:List Int):Prop:=o.length=n/\∀i:Nat,i<n->0<=rd o i/\rd o i<=i/\Reach ps n (rd o i).toNat i
def mj(ps:List (List Int))(n:Nat)(o:List Int):Prop:=ju ps n o/\∀p∈ps,∀i:Nat,i<n->rd o (rd p i)=rd o i
theorem xe(ps:List (List Int))(n:Nat):ju ps n (eE n):=by
 refine⟨og n,fun i hi=>?_⟩;rw[rD n i hi];exact⟨ac,ac,by rw[Int.toNat_natCast];exact Reach.refl _ _ _⟩
theorem vW{ps:List (List Int)}{n:Nat}{o:List Int}(h:mj ps n o)(hp:∀p∈ps,inR n p){i j:Nat}(hr:Reach ps n i j):rd o i=rd o j:=by
 have:=hr (fun k=>rd o k=rd o i) (fun p hp' k hk=>by
  have h1:=h.2 p hp' k hk;have h2:=(hp p hp').2 k hk;have e:(((rd p k).toNat:Nat):Int)=rd p k:=ac;show(rd o k=rd o i)↔(rd o (((rd p k).toNat:Nat):Int)=rd o i);rw[e,h1])
 exact(this.1 rfl).symm
theorem nV{ps:List (List Int)}{n:Nat}{o o':List Int}(h:mj ps n o)(h':ju ps n o')(hp:∀p∈ps,inR n p){i:Nat}(hi:i<n):rd o i<=rd o' i:=by
 obtain⟨g0,g1,g2⟩:=h'.2 i hi;have e:=vW h hp g2;have hlt:(rd o' i).toNat<n:=ac;have:=(h.1.2 _ hlt).2.1;have e2:(((rd o' i).toNat:Nat):Int)=rd o' i:=ac;omega
theorem uc(a b:Int):mn a b<=a/\mn a b<=b/\(mn a b=a\/mn a b=b):=by unfold mn;split<;>omega
theorem pD{ps:List (List Int)}{n:Nat}{o:List Int}(h:ju ps n o){i:Nat}(hi:i<n){v:Int}(h0:0<=v)(h1:v<=i)(hr:Reach ps n v.toNat i):ju ps n (o.set i v):=by
 refine⟨by simpa using h.1,fun j hj=>?_⟩;by_cases e:i=j
 · subst e
   rw[iE _ _ _ (by rw[h.1];exact hi)];exact⟨h0,h1,hr⟩
 · rw[gV _ _ _ _ e]
   exact h.2 j hj
def tot:List Int->Int
 |[]=>0
 |x::xs=>x+tot xs
theorem vH:∀(l:List Int) (i:Nat) (v:Int),i<l.length->tot (l.set i v)+rd l i=tot l+v
 |[],i,v,h=>by simp at h
 |x::xs,0,v,h=>by simp[tot,rd];omega
 |x::xs,i+1,v,h=>by
  have ih:=vH xs i v (by simpa using h);have e:rd (x::xs) ((i+1:Nat):Int)=rd xs i:=by unfold rd;rw[Int.toNat_natCast,Int.toNat_natCast];rfl
  rw[e];simp only[List.set_cons_succ,tot];omega
theorem uP:∀(l:List Int),(∀i:Nat,i<l.length->0<=rd l i)->0<=tot l
 |[],_=>by simp[tot]
 |x::xs,h=>by
  have h0:=h 0 ay;have e0:rd (x::xs) ((0:Nat):Int)=x:=rfl;rw[e0]at h0
  have:=uP xs fun i hi=>by
   have:=h (i+1) (by simpa using hi);have e:rd (x::xs) ((i+1:Nat):Int)=rd xs i:=by unfold rd;rw[Int.toNat_natCast,Int.toNat_natCast];rfl
   rwa [e]at this
  simp only[tot];omega
theorem lI(ps:List (List Int))(q:Nat)(h:q<ps.length):ak ps (q:Int)=ps[q]:=by
 have e:(q:Int).toNat=q:=Int.toNat_natCast q;unfold ak;rw[e,List.getD_eq_getElem?_getD,List.getElem?_eq_getElem h];rfl
theorem uF(ps:List (List Int))(n:Nat)(hn:n<=12)(q:Nat)(hq:q<ps.length)(hL:ps.length<=1048576)(P:List Int)(hP:P∈ps)(pl:P.length=n)(pr:∀i:Nat,i<n->0<=rd P i/\rd P i<n):∀(d i:Nat) (o:List Int) (g:Bool),n-i=d->i<=n->ju ps n o->
 ∃(o':List Int) (g':Bool),ju ps n o'/\(∀r,Ev (fun k=>bH.l1 k ps o' g' ps ps.length ((q+1:Nat):Int)) r->Ev (fun k=>bH.l2 k ps o g ps ps.length q P n i) r)/\tot o'<=tot o/\
  (g'=true->g=true\/tot o'<tot o)/\(g'=false->g=false/\o'=o/\∀j:Nat,i<=j->j<n->rd o (rd P j)=rd o j)
 |0,i,o,g,hd,hi,ho=>by
  refine⟨o,g,ho,fun r h=>Ev.s ?_,ac,fun h=>.inl h,fun h=>⟨h,rfl,fun j h1 h2=>by omega⟩⟩;simp only[bH.l2,show ¬(i:Int)<(n:Int) by omega,if_false];rw[w64 (x:=(q:Int)+1) ac ac,show((q:Int)+1)=((q+1:Nat):Int) by omega];exact h
 |d+1,i,o,g,hd,hi,ho=>by
  have hlt:i<n:=ac;have C:n-(i+1)=d:=ac;have hw:wrap64 ((i:Int)+1)=((i+1:Nat):Int):=by rw[w64 ac ac];omega
  have hr:=pr i hlt;have m:=Reach.step hP hlt;have N:=ho.1;obtain⟨t,ht⟩:∃t:Nat,rd P i=t:=⟨(rd P i).toNat,ac⟩;rw[ht,Int.toNat_natCast]at m;have b:t<n:=ac;obtain⟨i0,i1,i2⟩:=ho.2 i hlt;obtain⟨t0,t1,t2⟩:=ho.2 t b;obtain⟨z,c,u⟩:=uc (rd o i) (rd o t);have g1:(i:Int)<(n:Int):=ac;have g2:(0:Int)<=(i:Int):=ac;have g3:(0:Int)<=(t:Int):=ac;have g4:(t:Int)<(n:Int):=ac;obtain⟨v,hv⟩:∃v,mn (rd o i) (rd o t)=v:=⟨_,rfl⟩;rw[hv]at z c u;by_cases hc:rd o i=v/\rd o t=v
  · obtain⟨c1,c2⟩:=hc
    obtain⟨o',g',a1,a2,a3,a4,a5⟩:=uF ps n hn q hq hL P hP pl pr d (i+1) o g C hlt ho;refine⟨o',g',a1,fun r h=>Ev.s ?_,a3,a4,fun h=>?_⟩
    · simp only[bH.l2,g1,g2,g3,g4,pl,N,ht,hv,if_true,hw]
      simp only[c1,c2,if_true];exact a2 r h
    · obtain⟨b1,b2,b3⟩:=a5 h
      refine⟨b1,b2,fun j h1 h2=>?_⟩;by_cases e:j=i
      ·rw[e,ht];omega
      ·exact b3 j ac h2
  · have w:0<=v:=ac
    have F:Reach ps n v.toNat i:=by
     rcases u with e|e
     ·rw[e];exact i2
     ·rw[e];exact t2.trans m.symm
    have ho1:=pD ho hlt w ac F;have eg:=pD ho1 b w ac (F.trans m)
    have A:tot ((o.set i v).set t v)<tot o:=by
     have z1:=vH o i v ac;have z2:=vH (o.set i v) t v (by rw[List.length_set];omega);by_cases e:i=t
     · subst e
       rw[iE _ _ _ ac]at z2;omega
     · rw[gV _ _ _ _ e]at z2
       omega
    obtain⟨o',g',a1,a2,a3,a4,a5⟩:=uF ps n hn q hq hL P hP pl pr d (i+1) ((o.set i v).set t v) true C hlt eg;refine⟨o',g',a1,fun r h=>Ev.s ?_,ac,fun h=>.inr ac,fun h=>?_⟩
    · have y:=a2 r h
      by_cases c1:rd o i=v
      · have c2:¬rd o t=v:=fun e=>hc ⟨c1,e⟩
        simp only[bH.l2,g1,g2,g3,g4,pl,N,ht,hv,if_true,hw,Int.toNat_natCast];simp only[c1,c2,if_true,if_false];exact y
      · simp only[bH.l2,g1,g2,g3,g4,pl,N,ht,hv,if_true,hw,Int.toNat_natCast]
        simp only[c1,if_false];exact y
    · have:=(a5 h).1
      cases this
theorem Ac(ps:List (List Int))(n:Nat)(hn:n<=12)(hL:ps.length<=1048576)(hp:∀p∈ps,inR n p):∀(d q:Nat) (o:List Int) (g:Bool),ps.length-q=d->q<=ps.length->ju ps n o->
 ∃(o':List Int) (g':Bool),ju ps n o'/\(∀r,Ev (fun k=>bH.l0 k ps o' g') r->Ev (fun k=>bH.l1 k ps o g ps ps.length q) r)/\tot o'<=tot o/\
  (g'=true->g=true\/tot o'<tot o)/\(g'=false->g=false/\o'=o/\∀z:Nat,q<=z->z<ps.length->∀j:Nat,j<n->rd o (rd (ak ps z) j)=rd o j)
 |0,q,o,g,hd,hi,ho=>by
  refine⟨o,g,ho,fun r h=>Ev.s ?_,ac,fun h=>.inl h,fun h=>⟨h,rfl,fun j h1 h2=>by omega⟩⟩;simp only[bH.l1,show ¬(q:Int)<(ps.length:Int) by omega,if_false];exact h
 |d+1,q,o,g,hd,hi,ho=>by
  have hlt:q<ps.length:=ac;have C:ps.length-(q+1)=d:=ac;have hP:ak ps q∈ps:=by rw[lI ps q hlt];exact List.getElem_mem hlt
  obtain⟨pl,pr⟩:=hp _ hP;obtain⟨o1,b1,c1,c2,c3,c4,c5⟩:=uF ps n hn q hlt hL _ hP pl pr n 0 o g ac ac ho;obtain⟨o2,b2,e1,e2,e3,e4,e5⟩:=Ac ps n hn hL hp d (q+1) o1 b1 C hlt c1;refine⟨o2,b2,e1,fun r h=>Ev.s ?_,ac,fun h=>?_,fun h=>?_⟩
  · simp only[bH.l1,show(q:Int)<(ps.length:Int) by omega,show(0:Int)<=(q:Int) by omega,if_true,pl]
    exact c2 r (e2 r h)
  · rcases e4 h with z|z
    · rcases c4 z with y|y
      ·exact .inl y
      ·exact .inr ac
    ·exact .inr ac
  · obtain⟨f1,f2,f3⟩:=e5 h
    obtain⟨g1,g2,g3⟩:=c5 f1;refine⟨g1,f2.trans g2,fun z hz v j hj=>?_⟩;by_cases e:z=q
    ·rw[e];exact g3 j ac hj
    · have:=f3 z ac v j hj
      rwa [g2]at this
theorem Gk(ps:List (List Int))(n:Nat)(hn:n<=12)(hL:ps.length<=1048576)(hp:∀p∈ps,inR n p):∀(m:Nat) (o:List Int),tot o<=m->ju ps n o->∃o',mj ps n o'/\Ev (fun k=>bH.l0 k ps o true) o':=by
 intro m
 induction m using Nat.strongRecOn with
 |_ m ih=>
  intro o hm ho;obtain⟨o1,g1,c1,c2,c3,c4,c5⟩:=Ac ps n hn hL hp ps.length 0 o false ac ac ho;cases g1 with
  |false=>
   obtain⟨_,e2,e3⟩:=c5 rfl;refine⟨o,⟨ho,fun p hp' i hi=>?_⟩,Ev.s ?_⟩
   · obtain⟨z,hz,rfl⟩:=List.mem_iff_getElem.1 hp'
     have:=e3 z ac hz i hi
     rwa [lI ps z hz]at this
   · simp only[bH.l0,if_true]
     refine c2 o (Ev.s ?_);simp only[bH.l0,Bool.false_eq_true,if_false];exact Ev.const (by rw[e2])
  |true=>
   have hlt:tot o1<tot o:=by
    rcases c4 rfl with z|z
    ·cases z
    ·exact z
   have h0:=uP o1 fun i hi=>(c1.2 i (by rw[<-c1.1];exact hi)).1
   obtain⟨o',h1,h2⟩:=ih (tot o1).toNat ac o1 ac c1;refine⟨o',h1,Ev.s ?_⟩;simp only[bH.l0,if_true];exact c2 o' h2
theorem Ff(ps:List (List Int))(n:Nat)(hn:n<=12)(h0:0<ps.length)(hL:ps.length<=1048576)(hp:∀p∈ps,inR n p):∃o,mj ps n o/\Ev (fun k=>bH.f k ps) o:=by
 obtain⟨o,h1,h2⟩:=Gk ps n hn hL hp (tot (eE n)).toNat (eE n) (by have:=uP (eE n) (fun i hi=>by rw[rD n i (by rwa [og]at hi)];omega);omega) (xe ps n);refine⟨o,h1,?_⟩;unfold bH.f
 have hz:(ak ps 0).length=n:=by
  have:=lI ps 0 h0;rw[show((0:Nat):Int)=0 from rfl]at this;rw[this];exact(hp _ (List.getElem_mem h0)).1
 simp only[show(0:Int)<(ps.length:Int) by omega,if_true,hz];exact Ev.bind (GJ n ac) h2
def eM(o g:List Int):Nat->Nat
 |0=>0
 |i+1=>(if rd o i=rd g i then 0 else 1)+eM o g i
theorem ux(o g:List Int):∀i,eM o g i<=i
 |0=>Nat.le_refl _
 |i+1=>by have:=ux o g i;simp only[eM];split<;>omega
theorem sD(o g:List Int):∀n,eM o g n=0->∀i,i<n->rd o i=rd g i
 |0,_,i,h=>by omega
 |n+1,hz,i,h=>by
  simp only[eM]at hz;by_cases e:i=n
  · subst e
    by_cases c:rd o i=rd g i
    ·exact c
    ·rw[if_neg c]at hz;omega
  ·exact sD o g n ac i ac
theorem sW(o o' g:List Int)(h:∀i:Nat,rd o i=rd g i->rd o' i=rd g i):∀n,eM o' g n<=eM o g n
 |0=>Nat.le_refl _
 |n+1=>by
  have ih:=sW o o' g h n;simp only[eM];by_cases c:rd o n=rd g n
  ·rw[if_pos c,if_pos (h n c)];omega
  ·rw[if_neg c];split<;>omega
theorem tx(o o' g:List Int)(h:∀i:Nat,rd o i=rd g i->rd o' i=rd g i)(z:Nat)(hz:rd o z≠rd g z)(v:rd o' z=rd g z):∀n,z<n->eM o' g n<eM o g n
 |0,hn=>by omega
 |n+1,hn=>by
  simp only[eM];by_cases e:z=n
  · subst e
    have:=sW o o' g h z;rw[if_neg hz,if_pos v];omega
  · have ih:=tx o o' g h z hz v n ac
    by_cases c:rd o n=rd g n
    ·rw[if_pos c,if_pos (h n c)];omega
    ·rw[if_neg c];split<;>omega
theorem BG(a b:Int):mn a b=if a<=b then a else b:=by unfold mn;split<;>split<;>omega
theorem Dc(t f:List Int)(n:Nat)(hn:n<=12)(ht:inR n t)(hf:inR n f)(g:List Int)(hg:mj [t,f] n g)(round:Int):∀(d i:Nat) (o:List Int),n-i=d->i<=n->ju [t,f] n o->
 ∃o',ju [t,f] n o'/\(∀r,Ev (fun k=>dU.l0 k t f o' (wrap64 (round+1))) r->Ev (fun k=>dU.l1 k t f o round i) r)/\(∀z:Nat,z<n->rd o z=rd g z->rd o' z=rd g z)/\
  (∀j:Nat,i<=j->j<n->(rd o j=rd g j\/rd o (rd t j)=rd g (rd t j)\/rd o (rd f j)=rd g (rd f j))->rd o' j=rd g j/\rd o' (rd t j)=rd g (rd t j)/\rd o' (rd f j)=rd g (rd f j))
 |0,i,o,hd,hi,ho=>by
  refine⟨o,ho,fun r h=>Ev.s ?_,fun z _ h=>h,fun j h1 h2=>by omega⟩;simp only[dU.l1,ht.1,show ¬(i:Int)<(n:Int) by omega,if_false];exact h
 |d+1,i,o,hd,hi,ho=>by
  have hlt:i<n:=ac;have C:n-(i+1)=d:=ac;have hw:wrap64 ((i:Int)+1)=((i+1:Nat):Int):=by rw[w64 ac ac];omega
  have u:∀p∈[t,f],inR n p:=by intro p hp;simp at hp;rcases hp with rfl|rfl<;>assumption
  have V:=ht.2 i hlt;have U:=hf.2 i hlt;have J:=Reach.step (ps:=[t,f]) (p:=t) ay hlt;have L:=Reach.step (ps:=[t,f]) (p:=f) ay hlt;have ca:=hg.2 t ay i hlt;have cb:=hg.2 f ay i hlt;obtain⟨a,B⟩:∃a:Nat,rd t i=a:=⟨(rd t i).toNat,ac⟩;obtain⟨b,x⟩:∃b:Nat,rd f i=b:=⟨(rd f i).toNat,ac⟩;rw[B,Int.toNat_natCast]at J;rw[x,Int.toNat_natCast]at L;rw[B]at ca;rw[x]at cb;have han:a<n:=ac;have A:b<n:=ac;have N:=ho.1;obtain⟨i0,i1,i2⟩:=ho.2 i hlt;obtain⟨a0,a1,a2⟩:=ho.2 a han;obtain⟨b0,b1,b2⟩:=ho.2 b A;have li:=nV hg ho u hlt;have la:=nV hg ho u han;have lb:=nV hg ho u A;obtain⟨v,hv⟩:∃v,mn (rd o i) (mn (rd o a) (rd o b))=v:=⟨_,rfl⟩
  have R:v<=rd o i/\v<=rd o a/\v<=rd o b/\(v=rd o i\/v=rd o a\/v=rd o b):=by
   rw[<-hv,BG,BG];split<;>split at* <;>omega
  have w:0<=v:=ac
  have F:Reach [t,f] n v.toNat i:=by
   rcases R.2.2.2 with e|e|e
   ·rw[e];exact i2
   ·rw[e];exact a2.trans J.symm
   ·rw[e];exact b2.trans L.symm
  have ho1:=pD ho hlt w ac F;have eg:=pD ho1 han w ac (F.trans J);have m:=pD eg A w ac (F.trans L);obtain⟨o3,I⟩:∃o3,((o.set i v).set a v).set b v=o3:=⟨_,rfl⟩;rw[I]at m
  have H:∀z:Nat,rd o3 z=if z=i\/z=a\/z=b then v else rd o z:=by
   intro z;rw[<-I];by_cases z3:b=z
   ·subst z3;rw[iE _ _ _ (by simp;omega)];simp
   · rw[gV _ _ _ _ z3]
     by_cases z2:a=z
     ·subst z2;rw[iE _ _ _ (by simp;omega)];simp
     · rw[gV _ _ _ _ z2]
       by_cases z1:i=z
       ·subst z1;rw[iE _ _ _ ac];simp
       ·rw[gV _ _ _ _ z1,if_neg ac]
  have G:∀z:Nat,z<n->rd o z=rd g z->rd o3 z=rd g z:=by
   intro z hz e;have l3:=nV hg m u hz;rw[H z]at l3 ⊢;by_cases c:z=i\/z=a\/z=b
   · rw[if_pos c]at l3 ⊢
     have:v<=rd o z:=by rcases c with rfl|rfl|rfl<;>omega
     omega
   ·rw[if_neg c];exact e
  obtain⟨o',c1,c2,c3,c4⟩:=Dc t f n hn ht hf g hg round d (i+1) o3 C hlt m;refine⟨o',c1,fun r h=>Ev.s ?_,fun z hz e=>c3 z hz (G z hz e),fun j h1 h2 hj=>?_⟩
  · have y:=c2 r h
    have g1:(i:Int)<(n:Int):=ac;have g2:(0:Int)<=(i:Int):=ac;have g3:(0:Int)<=(a:Int):=ac;have g4:(a:Int)<(n:Int):=ac;have g5:(0:Int)<=(b:Int):=ac;have g6:(b:Int)<(n:Int):=ac;simp only[dU.l1,ht.1,hf.1,N,g1,g2,g3,g4,g5,g6,B,x,hv,if_true,hw,Int.toNat_natCast,I];exact y
  · by_cases e:j=i
    · subst e
      have l3:=nV hg m u hlt;have e3:rd o3 j=v:=by rw[H j,if_pos (.inl rfl)]
      have aa:rd o3 a=v:=by rw[H a,if_pos (.inr (.inl rfl))]
      have Y:rd o3 b=v:=by rw[H b,if_pos (.inr (.inr rfl))]
      rw[B,x]at hj ⊢
      have X:v=rd g j:=by
       rcases hj with z|z|z<;>omega
      exact⟨c3 j hlt ac,c3 a han ac,c3 b A ac⟩
    · refine c4 j ac h2 ?_
      have Z:=ht.2 j h2;have W:=hf.2 j h2;obtain⟨a',T⟩:∃a':Nat,rd t j=a':=⟨(rd t j).toNat,ac⟩;obtain⟨b',q⟩:∃b':Nat,rd f j=b':=⟨(rd f j).toNat,ac⟩;rw[T,q]at hj ⊢;rcases hj with z|z|z
      ·exact .inl (G j h2 z)
      ·exact .inr (.inl (G a' ac z))
      ·exact .inr (.inr (G b' ac z))
theorem xS(t f:List Int)(n:Nat)(hn:n<=12)(ht:inR n t)(hf:inR n f)(g:List Int)(hg:mj [t,f] n g):∀(d i:Nat) (o:List Int),n-i=d->i<=n->ju [t,f] n o->eM o g n<=d->Ev (fun k=>dU.l0 k t f o i) g
 |0,i,o,hd,hi,ho,hl=>by
  refine Ev.s ?_;simp only[dU.l0,ht.1,show ¬(i:Int)<(n:Int) by omega,if_false];have:o=g:=jV o g (ho.1.trans hg.1.1.symm) fun z hz=>sD o g n ac z (by rw[<-ho.1];exact hz)
  exact Ev.const (by rw[this])
 |d+1,i,o,hd,hi,ho,hl=>by
  have hlt:i<n:=ac;have C:n-(i+1)=d:=ac;have hw:wrap64 ((i:Int)+1)=((i+1:Nat):Int):=by rw[w64 ac ac];omega
  have u:∀p∈[t,f],inR n p:=by intro p hp;simp at hp;rcases hp with rfl|rfl<;>assumption
  obtain⟨o',c1,c2,c3,c4⟩:=Dc t f n hn ht hf g hg i n 0 o ac ac ho;refine Ev.s ?_;simp only[dU.l0,ht.1,show(i:Int)<(n:Int) by omega,if_true];refine c2 g ?_;rw[hw];refine xS t f n hn ht hf g hg d (i+1) o' C hlt c1 ?_
  have v:∀z:Nat,¬z<n->rd o z=rd o' z:=by
   intro z hz;unfold rd;rw[Int.toNat_natCast,List.getD_eq_getElem?_getD,List.getD_eq_getElem?_getD,List.getElem?_eq_none (by rw[ho.1];omega),List.getElem?_eq_none (by rw[c1.1];omega)]
  have keep:∀z:Nat,rd o z=rd g z->rd o' z=rd g z:=fun z e=>by
   by_cases hz:z<n
   ·exact c3 z hz e
   ·rw[<-v z hz];exact e
  by_cases hz:eM o g n=0
  · have:=sW o o' g keep n
    omega
  ·
   have b:∃z:Nat,z<n/\rd o z≠rd g z/\rd o' z=rd g z:=by
    refine Classical.byContradiction fun r=>?_
    have j:∀z:Nat,z<n->(rd o z=rd g z↔rd o' z=rd g z):=fun z hz=>⟨keep z,fun e=>Classical.byContradiction fun B=>r ⟨z,hz,B,e⟩⟩
    have L:kW [t,f] n (fun z=>rd o z=rd g z):=by
     intro p hp k hk;have hr:=(u p hp).2 k hk;obtain⟨a,ha⟩:∃a:Nat,rd p k=a:=⟨(rd p k).toNat,ac⟩;have han:a<n:=ac;rw[ha,Int.toNat_natCast];show rd o k=rd g k↔rd o a=rd g a;have h4:=c4 k ac hk;simp at hp;rcases hp with rfl|rfl
     · rw[ha]at h4
       exact⟨fun e=>(j a han).2 (h4 (.inl e)).2.1,fun e=>(j k hk).2 (h4 (.inr (.inl e))).1⟩
     · rw[ha]at h4
       exact⟨fun e=>(j a han).2 (h4 (.inl e)).2.2,fun e=>(j k hk).2 (h4 (.inr (.inr e))).1⟩
    have hall:∀z:Nat,z<n->rd o z=rd g z:=by
     intro z hz;obtain⟨g0,g1,g2⟩:=hg.1.2 z hz;have hm:(rd g z).toNat<n:=ac;have e1:((rd g z).toNat:Int)=rd g z:=ac;have q:rd g ((rd g z).toNat:Nat)=rd g z:=vW hg u g2
     have c:rd o ((rd g z).toNat:Nat)=rd g ((rd g z).toNat:Nat):=by
      have h1:=nV hg ho u hm;have h2:=(ho.2 _ hm).2.1;omega
     exact(g2 _ L).1 c
    have:eM o g n=0:=by
     have I:∀m,m<=n->eM o g m=0:=by
      intro m
      induction m with
      |zero=>intro _;rfl
      |succ m ih=>intro hm;simp only[eM];rw[if_pos (hall m ac),ih ac]
     exact I n (Nat.le_refl _)
    exact hz this
   obtain⟨z,z1,z2,z3⟩:=b;have:=tx o o' g keep z z2 z3 n z1;omega
theorem yJ(t f:List Int)(n:Nat)(hn:n<=12)(h1:1<=n)(ht:inR n t)(hf:inR n f):∃o,mj [t,f] n o/\Ev (fun k=>dU.f k t f) o/\Ev (fun k=>bH.f k [t,f]) o:=by
 have u:∀p∈[t,f],inR n p:=by intro p hp;simp at hp;rcases hp with rfl|rfl<;>assumption
 obtain⟨o,ho,he⟩:=Ff [t,f] n hn ay ay u;refine⟨o,ho,?_,he⟩;unfold dU.f;rw[ht.1];refine Ev.bind (Fa n ac) ?_;refine xS t f n hn ht hf o ho n 0 (eE n) ac ac (xe _ n) ?_;exact ux _ _ n
theorem iY(l:List Int)(h:j6 l):inR l.length l:=⟨rfl,fun i hi=>⟨(h.2.2 i hi).1,(h.2.2 i hi).2.1⟩⟩
def upd(m:List Int)(A B:Int):List Int:=(m.set A.toNat B).set B.toNat A
def lf(g:List Int)(x0 x1 x2 x3:Int):Int×Int:=
 if rd g x1=rd g x0+1 then(if rd g x2=rd g x0+2 then(x2,x1)else if rd g x3=rd g x0+1 then(x1,x3)else(x1,x0))
 else if rd g x3=rd g x0+1 then(x3,x2)else if rd g x2=rd g x0 then(x0,x2)else(x0,x3)
theorem tf:Int.tmod (wrap64 ((0:Int)+3)) 4=3/\Int.tmod (wrap64 ((1:Int)+3)) 4=0/\Int.tmod (wrap64 ((2:Int)+3)) 4=1/\Int.tmod (wrap64 ((3:Int)+3)) 4=2/\Int.tmod (wrap64 ((0:Int)+2)) 4=2/\Int.tmod (wrap64 ((1:Int)+2)) 4=3/\Int.tmod (wrap64 ((2:Int)+2)) 4=0/\Int.tmod (wrap64 ((3:Int)+2)) 4=1:=by
 refine⟨?_,?_,?_,?_,?_,?_,?_,?_⟩<;>rw[w64 ac ac]<;>rfl
theorem tm:wrap64 ((0:Int)+1)=1/\wrap64 ((1:Int)+1)=2/\wrap64 ((2:Int)+1)=3/\wrap64 ((3:Int)+1)=4:=by
 refine⟨?_,?_,?_,?_⟩<;>rw[w64 ac ac]<;>rfl
theorem rm(x0 x1 x2 x3:Int):(([x0,x1,x2,x3]:List Int).length:Int)=4/\rd [x0,x1,x2,x3] 0=x0/\rd [x0,x1,x2,x3] 1=x1/\rd [x0,x1,x2,x3] 2=x2/\rd [x0,x1,x2,x3] 3=x3:=⟨rfl,rfl,rfl,rfl,rfl⟩
theorem sH(x:Int):(([x]:List Int).length:Int)=1/\rd [x] 0=x/\([x]:List Int).length<17592186044416:=⟨rfl,rfl,by show 1<_;omega⟩
theorem sZ(x y:Int):(([x,y]:List Int).length:Int)=2/\rd [x,y] 0=x/\rd [x,y] 1=y:=⟨rfl,rfl,rfl⟩
theorem sR:([]:List Int).length<17592186044416:=by decide
theorem rp:((0:Int)<4)/\((1:Int)<4)/\((2:Int)<4)/\((3:Int)<4)/\(¬(4:Int)<4)/\((0:Int)<=0)/\((0:Int)<=1)/\((0:Int)<=2)/\((0:Int)<=3)/\((0:Int)<1)/\((0:Int)<2)/\((1:Int)<2)/\(¬(1:Int)=2)/\(¬(2:Int)=1):=by decide
theorem nK(c:Int):(¬c=c+1/\¬c=c+2/\¬c=c-1/\¬c=c-2/\¬c+1=c/\¬c+2=c/\¬c-1=c/\¬c-2=c/\¬c+1=c+2/\¬c+2=c+1/\¬c-1=c+1/\¬c+1=c-1/\¬c-1=c-2/\¬c-2=c-1/\¬c-1=c+2/\¬c-2=c+1/\¬c-2=c+2)/\
 (mx c c=c/\mx c (c+1)=c+1/\mx (c+1) (c+2)=c+2/\mx (c+2) (c+1)=c+2/\mx (c+1) c=c+1/\mx (c+1) (c+1)=c+1/\mx c (c-1)=c/\mx c (c-2)=c/\mx (c+1) (c-1)=c+1)/\
 ¬c>c/\c+1>c/\c+2>c+1/\¬c+1>c+2/\¬c>c+1/\¬c+1>c+1/\¬c-1>c+1/\¬c-1>c/\¬c-2>c:=by
 refine⟨?_,?_,?_⟩
 ·omega
 · unfold mx;repeat' apply And.intro
   all_goals (split<;>omega)
 ·omega
theorem rP(a b c d:Int)(s1:b=a+1\/b+1=a)(s2:c=b+1\/c+1=b)(s3:d=c+1\/d+1=c)(s4:a=d+1\/a+1=d):(b=a+1/\c=a+2/\d=a+1)\/(b=a+1/\c=a/\d=a+1)\/(b=a+1/\c=a/\d=a-1)\/(b=a-1/\c=a/\d=a+1)\/(b=a-1/\c=a/\d=a-1)\/(b=a-1/\c=a-2/\d=a-1):=by
 rcases s1 with s1|s1<;>rcases s2 with s2|s2<;>rcases s3 with s3|s3
 ·exfalso;omega
 ·exact .inl ⟨ac,ac,ac⟩
 ·exact .inr (.inl ⟨ac,ac,ac⟩)
 ·exact .inr (.inr (.inl ⟨ac,ac,ac⟩))
 ·exact .inr (.inr (.inr (.inl ⟨ac,ac,ac⟩)))
 ·exact .inr (.inr (.inr (.inr (.inl ⟨ac,ac,ac⟩))))
 ·exact .inr (.inr (.inr (.inr (.inr ⟨ac,ac,ac⟩))))
 ·exfalso;omega
theorem GY(a:Int)(t f:List Int)(g m:List Int)(C:List (List Int))(n:Nat)(q:Nat)(hq:q<C.length)(hC:C.length<=1000)(x0 x1 x2 x3:Int)(el:ak C (q:Int)=[x0,x1,x2,x3])(hg:g.length=n)(hm:m.length=n)(a0:0<=x0)(b0:x0<n)(a1:0<=x1)(b1:x1<n)(a2:0<=x2)(b2:x2<n)(a3:0<=x3)(b3:x3<n)(s1:rd g x1=rd g x0+1\/rd g x1+1=rd g x0)(s2:rd g x2=rd g x1+1\/rd g x2+1=rd g x1)(s3:rd g x3=rd g x2+1\/rd g x3+1=rd g x2)(s4:rd g x0=rd g x3+1\/rd g x0+1=rd g x3)(r:ByteArray×List Int×Bool)(hr:Ev (fun k=>aZ.l1 k a g (upd m (lf g x0 x1 x2 x3).1 (lf g x0 x1 x2 x3).2) C C (C.length:Int) ((q+1:Nat):Int) t f) r):Ev (fun k=>aZ.l1 k a g m C C (C.length:Int) (q:Int) t f) r:=by
 have q1:(q:Int)<(C.length:Int):=ac;have q2:(0:Int)<=(q:Int):=ac;have q3:wrap64 ((q:Int)+1)=((q+1:Nat):Int):=cM ac
 rcases rP (rd g x0) (rd g x1) (rd g x2) (rd g x3) s1 s2 s3 s4 with⟨p1,p2,p3⟩|⟨p1,p2,p3⟩|⟨p1,p2,p3⟩|⟨p1,p2,p3⟩|⟨p1,p2,p3⟩|⟨p1,p2,p3⟩<;>
  (simp only[lf,p1,p2,p3,nK,if_true,if_false]at hr
   refine Ev.s ?_;simp only[aZ.l1,q1,q2,q3,el,hg,hm,rm,a0,b0,a1,b1,a2,b2,a3,b3,p1,p2,p3,tm,tf,rp,nK,sH,sZ,sR,List.nil_append,List.cons_append,if_true,if_false]
   iterate 10 (refine Ev.s ?_;simp only[aZ.l2,aZ.l3,q1,q2,q3,el,hg,hm,rm,a0,b0,a1,b1,a2,b2,a3,b3,p1,p2,p3,tm,tf,rp,nK,sH,sZ,sR,List.nil_append,List.cons_append,if_true,if_false])
   exact hr)
theorem Eu(g m:List Int)(C:List (List Int))(n:Nat)(q:Nat)(hq:q<C.length)(hC:C.length<=1000)(x0 x1 x2 x3:Int)(el:ak C (q:Int)=[x0,x1,x2,x3])(hg:g.length=n)(hm:m.length=n)(a0:0<=x0)(b0:x0<n)(a1:0<=x1)(b1:x1<n)(a2:0<=x2)(b2:x2<n)(a3:0<=x3)(b3:x3<n)(s1:rd g x1=rd g x0+1\/rd g x1+1=rd g x0)(s2:rd g x2=rd g x1+1\/rd g x2+1=rd g x1)(s3:rd g x3=rd g x2+1\/rd g x3+1=rd g x2)(s4:rd g x0=rd g x3+1\/rd g x0+1=rd g x3)(r:List Int)(hr:Ev (fun k=>dk.l1 k g (upd m (lf g x0 x1 x2 x3).1 (lf g x0 x1 x2 x3).2) C ((q+1:Nat):Int)) r):Ev (fun k=>dk.l1 k g m C (q:Int)) r:=by
 have q1:(q:Int)<(C.length:Int):=ac;have q2:(0:Int)<=(q:Int):=ac;have q3:wrap64 ((q:Int)+1)=((q+1:Nat):Int):=cM ac
 rcases rP (rd g x0) (rd g x1) (rd g x2) (rd g x3) s1 s2 s3 s4 with⟨p1,p2,p3⟩|⟨p1,p2,p3⟩|⟨p1,p2,p3⟩|⟨p1,p2,p3⟩|⟨p1,p2,p3⟩|⟨p1,p2,p3⟩<;>
  (simp only[lf,p1,p2,p3,nK,if_true,if_false]at hr
   refine Ev.s ?_;simp only[dk.l1,q1,q2,q3,el,hg,hm,rm,a0,b0,a1,b1,a2,b2,a3,b3,p1,p2,p3,tm,tf,rp,nK,sH,sZ,sR,List.nil_append,List.cons_append,if_true,if_false]
   iterate 5 (refine Ev.s ?_;simp only[dk.l2,q1,q2,q3,el,hg,hm,rm,a0,b0,a1,b1,a2,b2,a3,b3,p1,p2,p3,tm,tf,rp,nK,sH,sZ,sR,List.nil_append,List.cons_append,if_true,if_false])
   exact hr)
theorem gG:∀(a b:List Nat),a.Nodup->(∀x∈a,x∈b)->a.length<=b.length
 |[],b,_,_=>Nat.zero_le _
 |x::a,b,hn,h=>by
  have hx:=h x ay;obtain⟨m,c⟩:=List.nodup_cons.1 hn;have ih:=gG a (b.erase x) c fun y hy=>(List.mem_erase_of_ne (by rintro rfl;exact m hy)).2 (h y (by simp[hy]))
  rw[List.length_erase_of_mem hx]at ih;have:=List.length_pos_of_mem hx;simp only[List.length_cons];omega
def itr(t:List Int):Nat->Int->Int
 |0,x=>x
 |k+1,x=>itr t k (rd t x)
theorem gH(t:List Int)(n:Nat)(ht:inR n t):∀(k:Nat) (x:Int),0<=x/\x<n->0<=itr t k x/\itr t k x<n
 |0,x,h=>h
 |k+1,x,h=>by
  have:=ht.2 x.toNat ac;rw[show((x.toNat:Nat):Int)=x by omega]at this;exact gH t n ht k _ this
theorem iZ(t:List Int):∀(a b:Nat) (x:Int),itr t (a+b) x=itr t b (itr t a x)
 |0,b,x=>by rw[Nat.zero_add];rfl
 |a+1,b,x=>by
  rw[show a+1+b=(a+b)+1 by omega];exact iZ t a b _
def bL(n:Nat)(t:List Int):Prop:=∀i j:Nat,i<n->j<n->rd t i=rd t j->i=j
theorem qK(t:List Int)(n:Nat)(ht:inR n t)(hi:bL n t):∀(k:Nat) (x y:Int),0<=x/\x<n->0<=y/\y<n->itr t k x=itr t k y->x=y
 |0,x,y,_,_,h=>h
 |k+1,x,y,hx,hy,h=>by
  have a1:=ht.2 x.toNat ac;have a2:=ht.2 y.toNat ac;have ex:((x.toNat:Nat):Int)=x:=ac;have ey:((y.toNat:Nat):Int)=y:=ac;rw[ex]at a1;rw[ey]at a2;have h1:=qK t n ht hi k _ _ a1 a2 h;have:=hi x.toNat y.toNat ac ac (by rw[ex,ey];exact h1);omega
theorem o8(t:List Int)(n:Nat)(ht:inR n t)(hi:bL n t)(x:Int)(hx:0<=x/\x<n):∃k:Nat,k<n/\itr t (k+1) x=x:=by
 by_cases h:∃i j:Nat,i<j/\j<=n/\itr t i x=itr t j x
 · obtain⟨i,j,h1,h2,h3⟩:=h
   refine⟨j-i-1,ac,?_⟩;have e:itr t j x=itr t i (itr t (j-i-1+1) x):=by rw[<-iZ,show j-i-1+1+i=j by omega]
   rw[e]at h3;exact(qK t n ht hi i _ _ hx (gH t n ht _ x hx) h3).symm
 · exfalso
   have h1:=gG ((List.range (n+1)).map fun i=>(itr t i x).toNat) (List.range n) ?_ ?_
   · rw[List.length_map,List.length_range,List.length_range]at h1
     omega
   · rw[List.Nodup,List.pairwise_map]
     refine List.Pairwise.imp_of_mem ?_ (List.pairwise_lt_range (n:=n+1));intro a b ha hb o e;have ia:=gH t n ht a x hx;have ib:=gH t n ht b x hx;exact h ⟨a,b,o,by have:=List.mem_range.1 hb;omega,ac⟩
   · intro y hy
     obtain⟨a,ha,rfl⟩:=List.mem_map.1 hy;have ia:=gH t n ht a x hx;exact List.mem_range.2 ac
def cm(n:Nat)(P:Nat->Prop)(k:Nat):Prop:=∃L:List Nat,L.Nodup/\(∀x,x∈L↔x<n/\P x)/\L.length=k
theorem cm.ex(P:Nat->Prop):∀n,∃k,cm n P k/\k<=n
 |0=>⟨0,⟨[],List.nodup_nil,ay,rfl⟩,Nat.le_refl _⟩
 |n+1=>by
  obtain⟨k,⟨L,h1,h2,h3⟩,hk⟩:=cm.ex P n;by_cases h:P n
  · refine⟨k+1,⟨n::L,List.nodup_cons.2 ⟨fun z=>by have:=((h2 n).1 z).1;omega,h1⟩,fun x=>?_,by simp[h3]⟩,ac⟩
    rw[List.mem_cons,h2];constructor
    · rintro(rfl|⟨a,b⟩)
      ·exact⟨ac,h⟩
      ·exact⟨ac,b⟩
    · rintro⟨a,b⟩
      by_cases e:x=n
      ·exact .inl e
      ·exact .inr ⟨ac,b⟩
  · refine⟨k,⟨L,h1,fun x=>?_,h3⟩,ac⟩
    rw[h2];constructor
    ·rintro⟨a,b⟩;exact⟨ac,b⟩
    · rintro⟨a,b⟩
      by_cases e:x=n
      ·exact absurd (e▸b) h
      ·exact⟨ac,b⟩
theorem cm.le{n:Nat}{P Q:Nat->Prop}{k l:Nat}(hp:cm n P k)(hq:cm n Q l)(g:Nat->Nat)(hg:∀x,x<n->P x->g x<n/\Q (g x))(hi:∀x y,x<n->P x->y<n->P y->g x=g y->x=y):k<=l:=by
 obtain⟨L,h1,h2,rfl⟩:=hp;obtain⟨M,m1,m2,rfl⟩:=hq;rw[<-List.length_map (f:=g)];refine gG _ _ ?_ ?_
 · rw[List.Nodup,List.pairwise_map]
   refine List.Pairwise.imp_of_mem ?_ h1;intro a b ha hb o e;exact o (hi a b ((h2 a).1 ha).1 ((h2 a).1 ha).2 ((h2 b).1 hb).1 ((h2 b).1 hb).2 e)
 · intro y hy
   obtain⟨a,ha,rfl⟩:=List.mem_map.1 hy;exact(m2 _).2 (hg a ((h2 a).1 ha).1 ((h2 a).1 ha).2)
theorem cm.sub{n:Nat}{P Q:Nat->Prop}{k l:Nat}(hp:cm n P k)(hq:cm n Q l)(h:∀x,x<n->P x->Q x):k<=l:=
 hp.le hq (fun x=>x) (fun x hx px=>⟨hx,h x hx px⟩) (fun _ _ _ _ _ _ e=>e)
theorem cm.same{n:Nat}{P Q:Nat->Prop}{k l:Nat}(hp:cm n P k)(hq:cm n Q l)(h:∀x,x<n->(P x↔Q x)):k=l:=
 Nat.le_antisymm (hp.sub hq fun x hx=>(h x hx).1) (hq.sub hp fun x hx=>(h x hx).2)
theorem cm.congr{n:Nat}{P Q:Nat->Prop}{k:Nat}(hp:cm n P k)(h:∀x,x<n->(P x↔Q x)):cm n Q k:=by
 obtain⟨L,h1,h2,h3⟩:=hp;exact⟨L,h1,fun x=>by rw[h2];exact⟨fun z=>⟨z.1,(h x z.1).1 z.2⟩,fun z=>⟨z.1,(h x z.1).2 z.2⟩⟩,h3⟩
theorem cm.reps{n:Nat}{P Q:Nat->Prop}{k l:Nat}(R:Nat->Nat->Prop)(hs:∀x y,R x y->R y x)(ht:∀x y z,R x y->R y z->R x z)(hp:cm n P k)(hq:cm n Q l)
 (h:∀x,x<n->P x->∃y,y<n/\Q y/\R x y)(hu:∀x y,x<n->P x->y<n->P y->R x y->x=y):k<=l:=by
 classical
 refine hp.le hq (fun x=>if hx:x<n/\P x then Classical.choose (h x hx.1 hx.2)else 0) (fun x hx px=>?_) (fun x y hx px hy py e=>?_)
 · rw[dif_pos ⟨hx,px⟩]
   have:=Classical.choose_spec (h x hx px);exact⟨this.1,this.2.1⟩
 · rw[dif_pos ⟨hx,px⟩,dif_pos ⟨hy,py⟩]at e
   have h1:=(Classical.choose_spec (h x hx px)).2.2;have h2:=(Classical.choose_spec (h y hy py)).2.2;rw[e]at h1;exact hu x y hx px hy py (ht _ _ _ h1 (hs _ _ h2))
theorem cm.drop{n:Nat}{P Q:Nat->Prop}{k:Nat}(hp:cm n P k)(z:Nat)(hz:z<n)(pz:P z)(h:∀x,x<n->(Q x↔P x/\x≠z)):1<=k/\cm n Q (k-1):=by
 obtain⟨L,h1,h2,rfl⟩:=hp;have hm:z∈L:=(h2 z).2 ⟨hz,pz⟩;have:=List.length_pos_of_mem hm;refine⟨this,L.erase z,h1.erase z,fun x=>?_,List.length_erase_of_mem hm⟩;rw[h1.mem_erase_iff,h2];constructor
 ·rintro⟨a,b,c⟩;exact⟨b,(h x b).2 ⟨c,a⟩⟩
 ·rintro⟨a,b⟩;have:=(h x a).1 b;exact⟨this.2,a,this.1⟩
def ko(R:Nat->Nat->Prop)(j:Nat):Prop:=∀i,i<j->¬R i j
def Cl(n:Nat)(R:Nat->Nat->Prop)(k:Nat):Prop:=cm n (ko R) k
theorem pT(R:Nat->Nat->Prop)(hr:∀x,R x x)(hs:∀x y,R x y->R y x)(ht:∀x y z,R x y->R y z->R x z):∀x,∃y,y<=x/\ko R y/\R y x:=by
 intro x
 induction x using Nat.strongRecOn with
 |ind x ih=>
  by_cases h:∃i,i<x/\R i x
  · obtain⟨i,hi,b⟩:=h
    obtain⟨y,y1,y2,y3⟩:=ih i hi;exact⟨y,ac,y2,ht _ _ _ y3 b⟩
  ·exact⟨x,Nat.le_refl _,fun i hi b=>h ⟨i,hi,b⟩,hr x⟩
theorem qC(R:Nat->Nat->Prop)(hs:∀x y,R x y->R y x)(x y:Nat)(hx:ko R x)(hy:ko R y)(h:R x y):x=y:=by
 by_cases h1:x<y
 ·exact absurd h (hy x h1)
 · by_cases h2:y<x
   ·exact absurd (hs _ _ h) (hx y h2)
   ·omega
theorem Cl.merge{n:Nat}{R S:Nat->Nat->Prop}{k:Nat}(hr:∀x,R x x)(hs:∀x y,R x y->R y x)(ht:∀x y z,R x y->R y z->R x z)(hk:Cl n R k)(a b:Nat)(ha:a<n)(hb:b<n)(o:¬R a b)
 (hS:∀x y,S x y↔R x y\/(R x a/\R b y)\/(R x b/\R a y)):1<=k/\Cl n S (k-1):=by
 obtain⟨p,p1,p2,p3⟩:=pT R hr hs ht a;obtain⟨q,q1,q2,q3⟩:=pT R hr hs ht b;have c:p≠q:=by rintro rfl;exact o (ht _ _ _ (hs _ _ p3) q3)
 have B:∀(p q a b:Nat),p<q->ko R p->ko R q->R p a->R q b->q<n->¬R a b->(∀x y,S x y↔R x y\/(R x a/\R b y)\/(R x b/\R a y))->1<=k/\Cl n S (k-1):=by
  intro p q a b hlt p2 q2 p3 q3 hq o hS;refine cm.drop hk q hq q2 fun x hx=>⟨fun h=>⟨fun i hi z=>h i hi ((hS _ _).2 (.inl z)),?_⟩,fun⟨h1,h2⟩ i hi z=>?_⟩
  · rintro rfl
    exact h p hlt ((hS _ _).2 (.inr (.inl ⟨p3,hs _ _ q3⟩)))
  · rcases(hS _ _).1 z with z|⟨z1,z2⟩|⟨z1,z2⟩
    ·exact h1 i hi z
    ·exact h2 (qC R hs x q h1 q2 (ht _ _ _ (hs _ _ z2) (hs _ _ q3)))
    · have e:=qC R hs x p h1 p2 (ht _ _ _ (hs _ _ z2) (hs _ _ p3))
      subst e;exact q2 i ac (ht _ _ _ z1 (hs _ _ q3))
 rcases Nat.lt_or_gt_of_ne c with h|h
 ·exact B p q a b h p2 q2 p3 q3 ac o hS
 ·exact B q p b a h q2 p2 q3 p3 ac (fun z=>o (hs _ _ z)) (fun x y=>by rw[hS];exact⟨fun z=>z.elim .inl (fun z=>.inr (z.elim .inr .inl)),fun z=>z.elim .inl (fun z=>.inr (z.elim .inr .inl))⟩)
theorem jq(p:List Int)(n:Nat)(hp:inR n p)(hi:bL n p)(S:Nat->Prop)(h:∀k,k<n->S k->S (rd p k).toNat):kW [p] n S:=by
 intro q hq k hk;have e:q=p:=by simpa using hq
 subst e;refine⟨h k hk,fun hs=>?_⟩;obtain⟨m,h1,h2⟩:=o8 q n hp hi k ac
 have g:∀(j:Nat) (x:Int),0<=x/\x<n->S x.toNat->S (itr q j x).toNat:=by
  intro j
  induction j with
  |zero=>intro x _ h;exact h
  |succ j ih=>
   intro x hx b;have:=hp.2 x.toNat ac;have e:=h x.toNat ac b;rw[show((x.toNat:Nat):Int)=x by omega]at this e;exact ih _ this e
 have:=g m (rd q k) (hp.2 k hk) hs;rw[show itr q m (rd q k)=itr q (m+1) k from rfl,h2]at this;simpa using this
theorem nQ(ps:List (List Int))(p:List Int)(n:Nat)(hp:inR n p)(hm:p∈ps):∀(k:Nat) (x:Int),0<=x/\x<n->Reach ps n x.toNat (itr p k x).toNat
 |0,x,h=>Reach.refl _ _ _
 |k+1,x,h=>by
  have h1:=hp.2 x.toNat ac;have h2:=Reach.step (ps:=ps) (n:=n) hm (k:=x.toNat) ac;rw[show((x.toNat:Nat):Int)=x by omega]at h1 h2;exact h2.trans (nQ ps p n hp hm k _ h1)
theorem oU(p:List Int)(n:Nat)(hp:inR n p)(hi:bL n p)(a b:Nat)(ha:a<n)(h:Reach [p] n a b):∃k:Nat,itr p k (rd p a)=b:=by
 have hc:=jq p n hp hi (fun x=>∃k:Nat,itr p k (rd p a)=x) (fun k hk ⟨m,hm⟩=>⟨m+1,by
  rw[iZ p m 1,hm];have:=hp.2 k hk;show rd p k=_;omega⟩)
 obtain⟨m,h1,h2⟩:=o8 p n hp hi a ac;exact(h _ hc).1 ⟨m,h2⟩
theorem yw(p:List Int)(x:Int)(b:Int)(k:Nat)(h:itr p k x=b):∃m,m<=k/\itr p m x=b/\∀j,j<m->itr p j x≠b:=by
 induction k using Nat.strongRecOn with
 |ind k ih=>
  by_cases e:∃j,j<k/\itr p j x=b
  · obtain⟨j,h1,h2⟩:=e
    obtain⟨m,m1,m2,m3⟩:=ih j h1 h2;exact⟨m,ac,m2,m3⟩
  ·exact⟨k,Nat.le_refl _,h,fun j hj z=>e ⟨j,hj,z⟩⟩
def lD(n:Nat)(p q:List Int)(a b:Nat):Prop:=a<n/\b<n/\a≠b/\rd q a=rd p b/\rd q b=rd p a/\∀x:Nat,x<n->x≠a->x≠b->rd q x=rd p x
theorem lD.symm{n:Nat}{p q:List Int}{a b:Nat}(h:lD n p q a b):lD n q p a b:=⟨h.1,h.2.1,h.2.2.1,h.2.2.2.2.1.symm,h.2.2.2.1.symm,fun x hx h1 h2=>(h.2.2.2.2.2 x hx h1 h2).symm⟩
theorem E9{n:Nat}{p q:List Int}{a b:Nat}(hp:inR n p)(hq:inR n q)(ip:bL n p)(iq:bL n q)(h:lD n p q a b)(o:¬Reach [p] n a b):Reach [q] n a b:=by
 obtain⟨ha,hb,B,e1,e2,e3⟩:=h;obtain⟨k,hk⟩:=oU p n hp ip b b hb (Reach.refl _ _ _);obtain⟨m,m1,m2,m3⟩:=yw p (rd p b) b k hk;have pb:=hp.2 b hb
 have run:∀j,j<=m->Reach [q] n a (itr p j (rd p b)).toNat:=by
  intro j
  induction j with
  |zero=>
   intro _;have:=Reach.step (ps:=[q]) (n:=n) (p:=q) ay ha;rw[e1]at this;exact this
  |succ j ih=>
   intro hj;have h1:=ih ac;have h2:=gH p n hp j _ pb;have h3:=m3 j ac
   have h4:(itr p j (rd p b)).toNat≠a:=by
    intro e;apply o;have z:=nQ [p] p n hp ay (j+1) (b:Int) ac;rw[show itr p (j+1) (b:Int)=itr p j (rd p b)from rfl,e]at z;exact z.symm
   have s:=Reach.step (ps:=[q]) (n:=n) (p:=q) ay (k:=(itr p j (rd p b)).toNat) ac;rw[e3 _ ac h4 ac,show(((itr p j (rd p b)).toNat:Nat):Int)=itr p j (rd p b) by omega]at s;rw[iZ p j 1];exact h1.trans s
 have:=run m (Nat.le_refl _);rw[m2]at this;exact this
theorem DK{n:Nat}{p q:List Int}{a b:Nat}(hp:inR n p)(hq:inR n q)(ip:bL n p)(iq:bL n q)(h:lD n p q a b)(o:Reach [p] n a b):¬Reach [q] n a b:=by
 obtain⟨ha,hb,B,e1,e2,e3⟩:=h;obtain⟨k,hk⟩:=oU p n hp ip b a hb o.symm;obtain⟨m,m1,m2,m3⟩:=yw p (rd p b) a k hk;have pb:=hp.2 b hb
 have nb:∀j,j<=m->itr p j (rd p b)≠b:=by
  intro j hj e;by_cases ej:j=m
  · rw[ej,m2]at e
    omega
  · have:itr p (m-j-1) (rd p b)=a:=by
     have z:itr p m (rd p b)=itr p (m-j-1) (rd p (itr p j (rd p b))):=by
      rw[show m=j+(1+(m-j-1)) by omega,iZ,iZ p 1];rw[show j+(1+(m-j-1))-j-1=m-j-1 by omega];rfl
     rw[e,m2]at z;exact z.symm
    exact m3 (m-j-1) ac this
 have hc:=jq q n hq iq (fun x=>∃j,j<=m/\itr p j (rd p b)=x) (fun x hx ⟨j,hj,hjx⟩=>by
  have qx:=hq.2 x hx;by_cases ex:x=a
  · subst ex
    exact⟨0,ac,by rw[e1];show rd p b=_;omega⟩
  · have r:x≠b:=by
     intro e;exact nb j hj (by rw[hjx,e])
    have jm:j≠m:=by
     rintro rfl;rw[m2]at hjx;omega
    refine⟨j+1,ac,?_⟩;rw[iZ p j 1,hjx,e3 x hx ex r];have:=hp.2 x hx;show rd p x=_;omega)
 intro hr;obtain⟨j,hj,c⟩:=(hr _ hc).1 ⟨m,Nat.le_refl _,m2⟩;exact nb j hj c
theorem Cl.ex(n:Nat)(R:Nat->Nat->Prop):∃k,Cl n R k/\k<=n:=cm.ex _ n
theorem Cl.uniq{n:Nat}{R:Nat->Nat->Prop}{k l:Nat}(h:Cl n R k)(h':Cl n R l):k=l:=cm.same h h' fun _ _=>Iff.rfl
theorem yQ{n:Nat}{p q:List Int}{a b:Nat}(hp:inR n p)(hq:inR n q)(ip:bL n p)(iq:bL n q)(h:lD n p q a b)(o:¬Reach [p] n a b)(x y:Nat):
 Reach [q] n x y↔Reach [p] n x y\/(Reach [p] n x a/\Reach [p] n b y)\/(Reach [p] n x b/\Reach [p] n a y):=by
 have hj:=E9 hp hq ip iq h o;obtain⟨ha,hb,B,e1,e2,e3⟩:=h
 have up:∀x y,Reach [p] n x y->Reach [q] n x y:=by
  intro x y hr S hS;refine hr S fun r A k hk=>?_
  have:r=p:=by simpa using A
  subst this;have sq:=hS q ay;by_cases ka:k=a
  · subst ka
    have z:=sq b hb;rw[e2]at z;exact(hj S hS).trans z
  · by_cases kb:k=b
    · subst kb
      have z:=sq a ha;rw[e1]at z;exact(hj S hS).symm.trans z
    · have z:=sq k hk
      rw[e3 k hk ka kb]at z;exact z
 constructor
 · intro hr
   have hc:kW [q] n (fun z=>Reach [p] n x z\/(Reach [p] n x a/\Reach [p] n b z)\/(Reach [p] n x b/\Reach [p] n a z)):=by
    refine jq q n hq iq _ fun k hk hz=>?_
    have stp:∀z,z<n->Reach [p] n z (rd p z).toNat:=fun z hz=>Reach.step ay hz
    by_cases ka:k=a
    · subst ka
      rw[e1];rcases hz with z|⟨z1,z2⟩|⟨z1,z2⟩
      ·exact .inr (.inl ⟨z,stp b hb⟩)
      ·exact .inr (.inl ⟨z1,stp b hb⟩)
      ·exact .inl (z1.trans (stp b hb))
    · by_cases kb:k=b
      · subst kb
        rw[e2];rcases hz with z|⟨z1,z2⟩|⟨z1,z2⟩
        ·exact .inr (.inr ⟨z,stp a ha⟩)
        ·exact .inl (z1.trans (stp a ha))
        ·exact .inr (.inr ⟨z1,stp a ha⟩)
      · rw[e3 k hk ka kb]
        have s:=stp k hk;rcases hz with z|⟨z1,z2⟩|⟨z1,z2⟩
        ·exact .inl (z.trans s)
        ·exact .inr (.inl ⟨z1,z2.trans s⟩)
        ·exact .inr (.inr ⟨z1,z2.trans s⟩)
   exact(hr _ hc).1 (.inl (Reach.refl _ _ _))
 · rintro(z|⟨z1,z2⟩|⟨z1,z2⟩)
   ·exact up _ _ z
   ·exact(up _ _ z1).trans (hj.trans (up _ _ z2))
   ·exact(up _ _ z1).trans (hj.symm.trans (up _ _ z2))
theorem Dw{n:Nat}{p q:List Int}{a b k l:Nat}(hp:inR n p)(hq:inR n q)(ip:bL n p)(iq:bL n q)(h:lD n p q a b)(hk:Cl n (Reach [p] n) k)(hl:Cl n (Reach [q] n) l):
 (¬Reach [p] n a b->l+1=k)/\(Reach [p] n a b->l=k+1):=by
 have sy:∀p:List Int,∀x y,Reach [p] n x y->Reach [p] n y x:=fun p x y h=>h.symm
 have tr:∀p:List Int,∀x y z,Reach [p] n x y->Reach [p] n y z->Reach [p] n x z:=fun p x y z h h'=>h.trans h'
 constructor
 · intro o
   have:=Cl.merge (S:=Reach [q] n) (fun x=>Reach.refl _ _ x) (sy p) (tr p) hk a b h.1 h.2.1 o (yQ hp hq ip iq h o);have e:=Cl.uniq hl this.2;omega
 · intro o
   have c:=DK hp hq ip iq h o;have:=Cl.merge (S:=Reach [p] n) (fun x=>Reach.refl _ _ x) (sy q) (tr q) hl a b h.1 h.2.1 c (yQ hq hp iq ip h.symm c);have e:=Cl.uniq hk this.2;omega
def it(f:Nat->Nat):Nat->Nat->Nat
 |0,x=>x
 |k+1,x=>it f k (f x)
theorem fJ(f:Nat->Nat):∀a b x,it f (a+b) x=it f b (it f a x)
 |0,b,x=>by rw[Nat.zero_add];rfl
 |a+1,b,x=>by rw[show a+1+b=(a+b)+1 by omega];exact fJ f a b _
theorem gY(f:Nat->Nat)(k x:Nat):it f (k+1) x=f (it f k x):=fJ f k 1 x
structure Qd (n:Nat) (τ φ l:Nat->Nat):Prop where
 tr:∀x,x<n->τ x<n
 fr:∀x,x<n->φ x<n
 ti:∀x y,x<n->y<n->τ x=τ y->x=y
 ff:∀x,x<n->φ (φ x)=x
 lt:∀x,x<n->l (τ x)=l x
 st:∀x,x<n->l x=l (φ x)+1\/l (φ x)=l x+1
 four:∀x,x<n->τ (φ (τ (φ (τ (φ (τ (φ x)))))))=x
 dn:∀x,x<n->0<l x->∃k,l (φ (it τ k x))+1=l x
 db:∀x,x<n->0<l x->∃y,y<n/\l (φ y)+1=l y/\∃k,it τ k y=x
 pt:∀x y,x<n->y<n->l x=0->l y=0->∃k,it τ k x=y
inductive FN (τ φ l:Nat->Nat):Nat->Nat->Prop
 |here {x}:l (φ x)+1=l x->FN τ φ l x x
 |more {x y}:l (φ x)=l x+1->FN τ φ l (τ x) y->FN τ φ l x y
def Mt(τ φ l:Nat->Nat)(c:Nat):Nat:=
 if l (φ c)=l c+1 then τ (φ c)else if l (τ (φ (τ (φ c))))=l c then τ (φ (τ (φ c)))else τ (φ (τ (φ (τ (φ c)))))
inductive Run (τ φ l:Nat->Nat) (k:Nat):Nat->Nat->Prop
 |one {a b}:FN τ φ l (Mt τ φ l (τ a)) b->Run τ φ l k a b
 |cons {a b c}:FN τ φ l (Mt τ φ l (τ a)) c->k<=l c->Run τ φ l k c b->Run τ φ l k a b
theorem Run.weak{τ φ l:Nat->Nat}{k k' a b:Nat}(h:Run τ φ l k' a b)(hk:k<=k'):Run τ φ l k a b:=by
 induction h with
 |one h=>exact .one h
 |cons h1 h2 _ ih=>exact .cons h1 (Nat.le_trans hk h2) ih
theorem Run.app{τ φ l:Nat->Nat}{k a b c:Nat}(h:Run τ φ l k a b)(hb:k<=l b)(h':Run τ φ l k b c):Run τ φ l k a c:=by
 induction h with
 |one h=>exact .cons h hb h'
 |cons h1 h2 _ ih=>exact .cons h1 h2 (ih hb h')
section
variable {n:Nat} {τ φ l:Nat->Nat} (Q:Qd n τ φ l)
include Q
theorem Qd.itr{x:Nat}(hx:x<n):∀k,it τ k x<n
 |0=>hx
 |k+1=>by rw[gY];exact Q.tr _ (Qd.itr hx k)
theorem Qd.itl{x:Nat}(hx:x<n):∀k,l (it τ k x)=l x
 |0=>rfl
 |k+1=>by rw[gY,Q.lt _ (Q.itr hx k)];exact Qd.itl hx k
theorem Qd.km{x y:Nat}(hx:x<n)(h:FN τ φ l x y):y<n/\l y=l x/\l (φ y)+1=l y/\∃j,it τ j x=y/\∀i,i<j->l (φ (it τ i x))=l x+1:=by
 induction h with
 |here h=>exact⟨hx,rfl,h,0,rfl,fun i hi=>absurd hi ac⟩
 |more h _ ih=>
  obtain⟨a,b,c,j,j1,j2⟩:=ih (Q.tr _ hx);have e:=Q.lt _ hx;refine⟨a,ac,c,j+1,j1,fun i hi=>?_⟩;cases i with
  |zero=>exact h
  |succ i=>have:=j2 i ac;rw[e]at this;exact this
theorem Qd.wY{x:Nat}(hx:x<n)(h:0<l x):∃y,FN τ φ l x y:=by
 obtain⟨k,hk⟩:=Q.dn x hx h;revert x
 induction k with
 |zero=>intro x hx h hk;exact⟨x,.here hk⟩
 |succ k ih=>
  intro x hx h hk;rcases Q.st x hx with e|e
  ·exact⟨x,.here e.symm⟩
  · have e':=Q.lt x hx
    obtain⟨y,hy⟩:=ih (Q.tr x hx) ac (by rw[e'];exact hk);exact⟨y,.more e hy⟩
omit Q in
theorem FN.uniq{x y y':Nat}(h:FN τ φ l x y)(h':FN τ φ l x y'):y=y':=by
 induction h with
 |here h=>
  cases h' with
  |here _=>rfl
  |more h2 _=>omega
 |more h _ ih=>
  cases h' with
  |here h2=>omega
  |more _ h2=>exact ih h2
theorem Qd.face{e h:Nat}(hh:h<n)(he:e=τ h):τ (φ (τ (φ (τ (φ e)))))=φ h:=by
 have m:e<n:=he▸Q.tr h hh;have f4:=Q.four e m;have b1:=Q.tr _ (Q.fr e m);have b2:=Q.tr _ (Q.fr _ b1);have b3:=Q.tr _ (Q.fr _ b2);have:=Q.ti _ _ (Q.fr _ b3) hh (f4.trans he);rw[<-this,Q.ff _ b3]
theorem Qd.next{e h:Nat}(hh:h<n)(he:e=τ h)(uh:l (φ h)=l h+1)(ue:l (φ e)=l e+1)
 (C:∀z,z<n->l (φ z)+1=l z->l z=l e+2->∃b,FN τ φ l (φ z) b/\Run τ φ l (l z) z b):Run τ φ l (l e+2) (φ e) (φ h):=by
 have m:e<n:=he▸Q.tr h hh;have F:=Q.face hh he;have lh:l h=l e:=by rw[he,Q.lt h hh]
 have p1:=Q.fr e m;have q1:=Q.tr _ p1;have p2:=Q.fr _ q1;have q2:=Q.tr _ p2;have p3:=Q.fr _ q2;have q3:=Q.tr _ p3;have l1:l (τ (φ e))=l e+1:=by rw[Q.lt _ p1];exact ue
 have l2:l (φ (τ (φ e)))=l (τ (φ (τ (φ e)))):=(Q.lt _ p2).symm;have l3:l (φ (τ (φ (τ (φ e)))))=l (τ (φ (τ (φ (τ (φ e)))))):=(Q.lt _ p3).symm;have l4:l (τ (φ (τ (φ (τ (φ e))))))=l e+1:=by rw[F,uh,lh]
 have s1:=Q.st _ q1;have s2:=Q.st _ q2;have gd:FN τ φ l (φ h) (φ h):=.here (by rw[Q.ff h hh,uh]);by_cases c:l (φ (τ (φ e)))=l (τ (φ e))+1
 · have em:Mt τ φ l (τ (φ e))=τ (φ (τ (φ e))):=by unfold Mt;rw[if_pos c]
   have lz:l (τ (φ (τ (φ e))))=l e+2:=ac;have dz:l (φ (τ (φ (τ (φ e)))))+1=l (τ (φ (τ (φ e)))):=ac;obtain⟨b,b1,b2⟩:=C _ q2 dz lz
   have eb:b=φ h:=by
    cases b1 with
    |here h2=>rw[Q.ff _ q2]at h2;omega
    |more _ h2=>rw[F]at h2;exact h2.uniq gd
   subst eb;rw[lz]at b2;exact .cons (by rw[em];exact .here dz) ac b2
 · have em:Mt τ φ l (τ (φ e))=φ h:=by
    unfold Mt;rw[if_neg c,if_pos (by rw[F,uh,lh,l1]),F]
   exact .one (by rw[em];exact gd)
theorem Qd.way(L:Nat)(hL:∀x,x<n->l x<=L):∀(d:Nat) (z:Nat),z<n->l (φ z)+1=l z->2<=l z->L-l z=d->∃b,FN τ φ l (φ z) b/\Run τ φ l (l z) z b:=by
 intro d
 induction d using Nat.strongRecOn with
 |ind d ihd=>
  intro z hz dz kz ed
  have main:∀(j y e:Nat),y<n->l (φ y)+1=l y->it τ j y=e->l (φ e)=l e+1->l e+1=l z->∃b,FN τ φ l e b/\Run τ φ l (l z) (φ e) b:=by
   intro j
   induction j with
   |zero=>intro y e hy dy ej ue le;subst ej;exact absurd ue (by show ¬l (φ y)=l y+1;omega)
   |succ j ih=>
    intro y e hy dy ej ue le;rw[gY]at ej;have hh:=Q.itr hy j;generalize hhe:it τ j y=h at ej hh;have F:=Q.face hh ej.symm;have lh:l h=l e:=by rw[<-ej,Q.lt h hh]
    have m:e<n:=ej▸Q.tr h hh;rcases Q.st h hh with dh|uh
    · obtain⟨b,hb⟩:=Q.wY m ac
      refine⟨b,hb,.one ?_⟩;have p1:=Q.fr e m;have q1:=Q.tr _ p1;have p2:=Q.fr _ q1;have q2:=Q.tr _ p2;have p3:=Q.fr _ q2;have q3:=Q.tr _ p3;have l1:l (τ (φ e))=l e+1:=by rw[Q.lt _ p1];exact ue
      have l2:l (φ (τ (φ e)))=l (τ (φ (τ (φ e)))):=(Q.lt _ p2).symm;have l3:l (φ (τ (φ (τ (φ e)))))=l (τ (φ (τ (φ (τ (φ e)))))):=(Q.lt _ p3).symm;have l4:l (τ (φ (τ (φ (τ (φ e))))))+1=l e:=by rw[F];omega
      have s1:=Q.st _ q1;have s2:=Q.st _ q2
      have em:Mt τ φ l (τ (φ e))=e:=by
       unfold Mt;rw[if_neg ac,if_neg ac];exact Q.four e m
      rw[em];exact hb
    · obtain⟨b,b1,b2⟩:=ih y h hy dy hhe uh ac
      have fb:FN τ φ l e b:=by
       cases b1 with
       |here h2=>omega
       |more _ h2=>rw[ej]at h2;exact h2
      refine⟨b,fb,?_⟩;have N:=Q.next hh ej.symm uh ue fun z' v c k=>ihd (L-l z') (by have:=hL z' v;omega) z' v c ac rfl
      exact(N.weak ac).app ac b2
  have pz:=Q.fr z hz;obtain⟨y,hy,dy,j,hj⟩:=Q.db (φ z) pz ac;have r:=main j y (φ z) hy dy hj (by rw[Q.ff z hz];omega) ac;rw[Q.ff z hz]at r;exact r
theorem Qd.uu{z:Nat}(hz:z<n)(dz:l (φ z)+1=l z)(kz:2<=l z):∃b,FN τ φ l (φ z) b/\Run τ φ l (l z) z b:=by
 have hm:∀m,∃L,∀x,x<m->l x<=L:=by
  intro m
  induction m with
  |zero=>exact⟨0,fun x hx=>absurd hx ac⟩
  |succ m ih=>
   obtain⟨L,h⟩:=ih;refine⟨L+l m,fun x hx=>?_⟩;by_cases e:x=m
   ·subst e;omega
   ·have:=h x ac;omega
 obtain⟨L,hL⟩:=hm n;exact Q.way L hL _ z hz dz kz rfl
theorem Qd.wT{e h:Nat}(hh:h<n)(he:e=τ h)(uh:l (φ h)=l h+1)(ue:l (φ e)=l e+1):Run τ φ l (l e+2) (φ e) (φ h):=
 Q.next hh he uh ue fun z hz dz lz=>Q.uu hz dz ac
theorem Qd.mate{a:Nat}(ha:a<n)(da:l (φ a)+1=l a):∃w,w<n/\l (φ w)+1=l w/\Mt τ φ l (τ a)=τ w/\Mt τ φ l (τ w)=τ a/\0<l w:=by
 have hc:=Q.tr a ha;have F:=Q.face ha (e:=τ a) rfl;have f4:=Q.four _ hc;have lc:=Q.lt a ha;generalize hce:τ a=c at*;have p1:=Q.fr c hc;have q1:=Q.tr _ p1;have p2:=Q.fr _ q1;have q2:=Q.tr _ p2;have p3:=Q.fr _ q2;have q3:=Q.tr _ p3;have p4:=Q.fr _ q3;have l1:l (φ c)=l (τ (φ c)):=(Q.lt _ p1).symm;have l2:l (φ (τ (φ c)))=l (τ (φ (τ (φ c)))):=(Q.lt _ p2).symm;have l3:l (φ (τ (φ (τ (φ c)))))=l (τ (φ (τ (φ (τ (φ c)))))):=(Q.lt _ p3).symm;have l4:l (φ (τ (φ (τ (φ (τ (φ c)))))))=l c:=by rw[<-Q.lt _ p4,f4]
 have l5:l (τ (φ (τ (φ (τ (φ c))))))+1=l c:=by rw[F];omega
 have s1:=Q.st _ hc;have s2:=Q.st _ q1;have s3:=Q.st _ q2;by_cases c1:l (φ c)=l c+1
 · refine⟨φ c,p1,by rw[Q.ff c hc];omega,by unfold Mt;rw[if_pos c1],?_,ac⟩
   unfold Mt;rw[if_neg ac,if_neg ac,f4]
 · by_cases c2:l (τ (φ (τ (φ c))))=l c
   · refine⟨φ (τ (φ c)),p2,by rw[Q.ff _ q1];omega,by unfold Mt;rw[if_neg c1,if_pos c2],?_,ac⟩
     unfold Mt;rw[if_neg ac,if_pos (by rw[f4];omega),f4]
   · refine⟨φ (τ (φ (τ (φ c)))),p3,by rw[Q.ff _ q2];omega,by unfold Mt;rw[if_neg c1,if_neg c2],?_,ac⟩
     unfold Mt;rw[if_pos ac,f4]
end
end Go.Proofs.Ytlpbalebodlipaa.PL
set_option linter.unusedVariables false
set_option linter.unusedSimpArgs false
namespace Go.Proofs.Ytlpbalebodlipaa.PL
open Go.RowKit Go.Proofs.YtlpbalebodlipaaW.PrintWords Go.Proofs.YtlpbalebodlipaaW.PrintLast Go.Proofs.YtlpbalebodlipaaW.PrintMore
open Classical in
noncomputable def nx(τ φ l:Nat->Nat)(x:Nat):Nat:=if h:∃y,FN τ φ l x y then Classical.choose h else x
theorem FN.nx{τ φ l:Nat->Nat}{x y:Nat}(h:FN τ φ l x y):nx τ φ l x=y:=by
 unfold Go.Proofs.Ytlpbalebodlipaa.PL.nx;have hx:∃y,FN τ φ l x y:=⟨y,h⟩;rw[dif_pos hx];exact(Classical.choose_spec hx).uniq h
noncomputable def bU(τ φ l:Nat->Nat)(a:Nat):Nat:=nx τ φ l (Mt τ φ l (τ a))
def Dn(n:Nat)(φ l:Nat->Nat)(a:Nat):Prop:=a<n/\l (φ a)+1=l a
def kC(n:Nat)(φ l:Nat->Nat):List Nat:=(List.range n).filter fun a=>decide (l (φ a)+1=l a)
theorem nk(n:Nat)(φ l:Nat->Nat)(a:Nat):a∈kC n φ l↔Dn n φ l a:=by
 unfold kC Dn;rw[List.mem_filter,List.mem_range,decide_eq_true_eq]
theorem vr{p:Nat->Bool}:∀{L:List Nat},L.Nodup->(L.filter p).Nodup:=fun h=>h.filter p
theorem pW{f:Nat->Nat}:∀{L:List Nat},L.Nodup->(∀x∈L,∀y∈L,f x=f y->x=y)->(L.map f).Nodup
 |[],_,_=>by simp
 |a::L,h,hf=>by
  rw[List.nodup_cons]at h;rw[List.map_cons,List.nodup_cons];refine⟨fun hm=>?_,pW h.2 fun x hx y hy=>hf x (by simp[hx]) y (by simp[hy])⟩;obtain⟨x,hx,e⟩:=List.mem_map.1 hm;exact h.1 (hf x (by simp[hx]) a ay e▸hx)
section
variable {n:Nat} {τ φ l:Nat->Nat} (Q:Qd n τ φ l)
include Q
theorem Qd.qL{x y:Nat}(hx:x<n)(hy:y<n):∀k,it τ k x=it τ k y->x=y
 |0,h=>h
 |k+1,h=>by
  rw[gY,gY]at h;exact Qd.qL hx hy k (Q.ti _ _ (Q.itr hx k) (Q.itr hy k) h)
theorem Qd.pJ{a:Nat}(ha:Dn n φ l a):Dn n φ l (bU τ φ l a)/\FN τ φ l (Mt τ φ l (τ a)) (bU τ φ l a)/\l (bU τ φ l a)=l (Mt τ φ l (τ a)):=by
 obtain⟨w,w1,w2,w3,w4,w5⟩:=Q.mate ha.1 ha.2;have hw:=Q.tr w w1;have lw:=Q.lt w w1;obtain⟨y,hy⟩:=Q.wY hw ac;have e:bU τ φ l a=y:=by unfold bU;rw[w3];exact hy.nx
 obtain⟨b1,b2,b3,_⟩:=Q.km hw hy;rw[e,w3];exact⟨⟨b1,b3⟩,hy,b2⟩
theorem Qd.zj{a b:Nat}(ha:Dn n φ l a)(hb:Dn n φ l b)(h:bU τ φ l a=bU τ φ l b):a=b:=by
 obtain⟨w,w1,w2,w3,w4,w5⟩:=Q.mate ha.1 ha.2;obtain⟨v,v1,v2,v3,v4,v5⟩:=Q.mate hb.1 hb.2;obtain⟨_,fa,_⟩:=Q.pJ ha;obtain⟨_,fb,_⟩:=Q.pJ hb;rw[w3]at fa;rw[v3]at fb;have hw:=Q.tr w w1;have hv:=Q.tr v v1;obtain⟨_,_,_,j,j1,j2⟩:=Q.km hw fa;obtain⟨_,_,_,i,i1,i2⟩:=Q.km hv fb
 have B:∀(w v j i:Nat),w<n->v<n->l (φ w)+1=l w->j<=i->it τ j (τ w)=it τ i (τ v)->(∀q,q<i->l (φ (it τ q (τ v)))=l (τ v)+1)->w=v:=by
  intro w v j i hw hv dw hji e up;have o:=Q.tr w hw;have c:=Q.tr v hv;rw[show i=(i-j)+j by omega,fJ]at e;have e2:=Q.qL o (Q.itr c _) _ e;cases hm:i-j with
  |zero=>rw[hm]at e2;exact Q.ti _ _ hw hv e2
  |succ m=>
   rw[hm,gY]at e2;have e3:=Q.ti _ _ hw (Q.itr c m) e2;have u:=up m ac;have lv:=Q.itl c m;rw[<-e3]at u lv;omega
 have k:w=v:=by
  by_cases hji:j<=i
  ·exact B w v j i w1 v1 w2 hji (by rw[j1,i1,h]) i2
  ·exact(B v w i j v1 w1 v2 ac (by rw[j1,i1,h]) j2).symm
 subst k;exact Q.ti _ _ ha.1 hb.1 (w4.symm.trans v4)
theorem Qd.iJ{a:Nat}(ha:Dn n φ l a):∀k,Dn n φ l (it (bU τ φ l) k a)
 |0=>ha
 |k+1=>by rw[gY];exact(Q.pJ (Qd.iJ ha k)).1
theorem Qd.pQ{a b:Nat}(ha:Dn n φ l a)(hb:Dn n φ l b):∀k,it (bU τ φ l) k a=it (bU τ φ l) k b->a=b
 |0,h=>h
 |k+1,h=>by
  rw[gY,gY]at h;exact Qd.pQ ha hb k (Q.zj (Q.iJ ha k) (Q.iJ hb k) h)
theorem Qd.uo{k a b:Nat}(ha:Dn n φ l a)(h:Run τ φ l k a b):∃m,it (bU τ φ l) (m+1) a=b/\∀i,1<=i->i<=m->k<=l (it (bU τ φ l) i a):=by
 induction h with
 |one h=>exact⟨0,h.nx,fun i h1 h2=>absurd h1 ac⟩
 |cons h1 h2 _ ih=>
  have e:bU τ φ l _=_:=h1.nx;obtain⟨m,m1,m2⟩:=ih (e▸(Q.pJ ha).1);refine⟨m+1,?_,fun i i1 i2=>?_⟩
  · show it (bU τ φ l) (m+1) (bU τ φ l _)=_
    rw[e];exact m1
  · cases i with
    |zero=>omega
    |succ i=>
     show _<=l (it (bU τ φ l) i (bU τ φ l _));rw[e];by_cases hi:i=0
     ·subst hi;exact h2
     ·exact m2 i ac ac
theorem Qd.round{a:Nat}(ha:Dn n φ l a):∃p,1<=p/\it (bU τ φ l) p a=a:=by
 by_cases h:∃i j,i<j/\it (bU τ φ l) i a=it (bU τ φ l) j a
 · obtain⟨i,j,hij,e⟩:=h
   refine⟨j-i,ac,?_⟩;rw[show j=(j-i)+i by omega,fJ]at e;exact(Q.pQ ha (Q.iJ ha _) i e).symm
 · exfalso
   have:=gG ((List.range (n+1)).map fun i=>it (bU τ φ l) i a) (List.range n)
    (pW List.nodup_range fun x hx y hy e=>by
      by_cases h1:x<y
      ·exact absurd ⟨x,y,h1,e⟩ h
      · by_cases h2:y<x
        ·exact absurd ⟨y,x,h2,e.symm⟩ h
        ·omega)
    fun x hx=>by
     obtain⟨i,_,rfl⟩:=List.mem_map.1 hx;exact List.mem_range.2 (Q.iJ ha i).1
   simp at this;omega
omit Q in
theorem qf{f:Nat->Nat}{a p:Nat}(hp:it f p a=a):∀m,it f (p*m) a=a
 |0=>rfl
 |m+1=>by rw[Nat.mul_succ,fJ,qf hp m,hp]
theorem Qd.sym{a b:Nat}(ha:Dn n φ l a)(h:∃i,it (bU τ φ l) i a=b):∃i,it (bU τ φ l) i b=a:=by
 obtain⟨i,hi⟩:=h;obtain⟨p,p1,p2⟩:=Q.round ha;have le:i<=p*i:=Nat.le_mul_of_pos_left i p1;refine⟨p*i-i,?_⟩;rw[<-hi,<-fJ,show i+(p*i-i)=p*i by omega];exact qf p2 i
omit Q in
theorem sx{f:Nat->Nat}{a b c:Nat}(h:∃i,it f i a=b)(h':∃i,it f i b=c):∃i,it f i a=c:=by
 obtain⟨i,rfl⟩:=h;obtain⟨j,rfl⟩:=h';exact⟨i+j,fJ f i j a⟩
theorem Qd.low:∀(m a:Nat),Dn n φ l a->l a=m->∃p,Dn n φ l p/\l p=1/\∃i,it (bU τ φ l) i a=p
 |0,a,ha,e=>by have:=ha.2;omega
 |1,a,ha,e=>⟨a,ha,e,0,rfl⟩
 |m+2,a,ha,e=>by
  obtain⟨b,b1,b2⟩:=Q.uu ha.1 ha.2 ac;obtain⟨c1,c2,c3,_⟩:=Q.km (Q.fr a ha.1) b1;have d:=ha.2;obtain⟨p,p1,p2,p3⟩:=Qd.low (m+1) b ⟨c1,c3⟩ ac;obtain⟨i,i1,_⟩:=Q.uo ha b2;exact⟨p,p1,p2,sx ⟨i+1,i1⟩ p3⟩
theorem Qd.yL{e:Nat}(he:e<n)(h:l e=0):l (φ e)=l e+1:=by
 rcases Q.st e he with x|x<;>omega
theorem Qd.ones:∀(k e:Nat),e<n->l e=0->∃i,it (bU τ φ l) i (φ (it τ k e))=φ e
 |0,e,he,h=>⟨0,rfl⟩
 |k+1,e,he,h=>by
  have e1:=Q.tr e he;have l1:=Q.lt e he;have u:=Q.yL he h;have u1:=Q.yL e1 ac;have N:=Q.wT he rfl u u1;obtain⟨m,m1,_⟩:=Q.uo (show Dn n φ l (φ (τ e))from⟨Q.fr _ e1,by rw[Q.ff _ e1];omega⟩) N;exact sx (Qd.ones k (τ e) e1 ac) ⟨m+1,m1⟩
theorem Qd.all{a b:Nat}(ha:Dn n φ l a)(hb:Dn n φ l b):∃i,it (bU τ φ l) i a=b:=by
 obtain⟨p,p1,p2,p3⟩:=Q.low _ a ha rfl;obtain⟨q,q1,q2,q3⟩:=Q.low _ b hb rfl;refine sx p3 (sx ?_ (Q.sym hb q3));have dp:=p1.2;have dq:=q1.2;obtain⟨k,hk⟩:=Q.pt (φ q) (φ p) (Q.fr q q1.1) (Q.fr p p1.1) ac ac;have:=Q.ones k (φ q) (Q.fr q q1.1) ac;rw[hk,Q.ff p p1.1,Q.ff q q1.1]at this;exact this
theorem Qd.half:2*(kC n φ l).length=n:=by
 have nd:(kC n φ l).Nodup:=vr List.nodup_range;have nu:((List.range n).filter fun a=>! decide (l (φ a)+1=l a)).Nodup:=vr List.nodup_range
 have mu:∀x,x∈(List.range n).filter (fun a=>! decide (l (φ a)+1=l a))↔x<n/\l (φ x)=l x+1:=by
  intro x;rw[List.mem_filter,List.mem_range];constructor
  · rintro⟨h1,h2⟩
    have h2:¬(l (φ x)+1=l x):=by simpa using h2
    rcases Q.st x h1 with e|e
    ·omega
    ·exact⟨h1,e⟩
  · rintro⟨h1,h2⟩
    have:¬(l (φ x)+1=l x):=ac;exact⟨h1,by simpa using this⟩
 have e1:=gG ((kC n φ l).map φ) _ (pW nd fun x hx y hy e=>by
  have hx:=((nk n φ l x).1 hx).1;have hy:=((nk n φ l y).1 hy).1;rw[<-Q.ff x hx,e,Q.ff y hy]) (fun x hx=>by
  obtain⟨y,hy,rfl⟩:=List.mem_map.1 hx;obtain⟨h1,h2⟩:=(nk n φ l y).1 hy;exact(mu _).2 ⟨Q.fr y h1,by rw[Q.ff y h1];omega⟩)
 have e2:=gG (((List.range n).filter fun a=>! decide (l (φ a)+1=l a)).map φ) (kC n φ l) (pW nu fun x hx y hy e=>by
  have hx:=((mu x).1 hx).1;have hy:=((mu y).1 hy).1;rw[<-Q.ff x hx,e,Q.ff y hy]) (fun x hx=>by
  obtain⟨y,hy,rfl⟩:=List.mem_map.1 hx;obtain⟨h1,h2⟩:=(mu y).1 hy;exact(nk n φ l _).2 ⟨Q.fr y h1,by rw[Q.ff y h1];omega⟩)
 rw[List.length_map]at e1 e2
 have e3:∀(L:List Nat) (p:Nat->Bool),(L.filter p).length+(L.filter fun a=>! p a).length=L.length:=by
  intro L p
  induction L with
  |nil=>rfl
  |cons x L ih=>
   simp only[List.filter_cons];cases p x<;>simp<;>omega
 have:=e3 (List.range n) fun a=>decide (l (φ a)+1=l a)
 rw[List.length_range]at this;unfold kC at*;omega
theorem Qd.once{a:Nat}(ha:Dn n φ l a)(i j:Nat)(hij:i<j)(hj:2*j<n):it (bU τ φ l) i a≠it (bU τ φ l) j a:=by
 intro e;rw[show j=(j-i)+i by omega,fJ]at e;have e:=Q.pQ ha (Q.iJ ha _) i e;have hp:it (bU τ φ l) (j-i) a=a:=e.symm
 have hb:∀b,Dn n φ l b->∃q,q<j-i/\it (bU τ φ l) q a=b:=by
  intro b hb;obtain⟨m,hm⟩:=Q.all ha hb;refine⟨m%(j-i),Nat.mod_lt _ ac,?_⟩;rw[<-hm]
  conv=>rhs;rw[<-Nat.div_add_mod m (j-i)]
  rw[fJ,qf hp]
 have:=gG (kC n φ l) ((List.range (j-i)).map fun q=>it (bU τ φ l) q a) (vr List.nodup_range) fun x hx=>by
  obtain⟨q,q1,q2⟩:=hb x ((nk n φ l x).1 hx);exact List.mem_map.2 ⟨q,List.mem_range.2 q1,q2⟩
 rw[List.length_map,List.length_range]at this;have h2:=Q.half;omega
theorem Qd.cover{a b:Nat}(ha:Dn n φ l a)(hb:Dn n φ l b):∃i,2*i<n/\it (bU τ φ l) i a=b:=by
 by_cases h:∃i,2*i<n/\it (bU τ φ l) i a=b
 ·exact h
 · exfalso
   have h2:=Q.half
   have nd:((List.range (kC n φ l).length).map fun q=>it (bU τ φ l) q a).Nodup:=pW List.nodup_range fun x hx y hy e=>by
    have hx:=List.mem_range.1 hx;have hy:=List.mem_range.1 hy;by_cases h1:x<y
    ·exact absurd e (Q.once ha x y h1 ac)
    · by_cases h3:y<x
      ·exact absurd e.symm (Q.once ha y x h3 ac)
      ·omega
   have:=gG (b::(List.range (kC n φ l).length).map fun q=>it (bU τ φ l) q a) (kC n φ l) (List.nodup_cons.2 ⟨fun hm=>by
    obtain⟨q,q1,q2⟩:=List.mem_map.1 hm;exact h ⟨q,by have:=List.mem_range.1 q1;omega,q2⟩,nd⟩) fun x hx=>by
    rcases List.mem_cons.1 hx with rfl|hx
    ·exact(nk n φ l x).2 hb
    · obtain⟨q,_,rfl⟩:=List.mem_map.1 hx
      exact(nk n φ l _).2 (Q.iJ ha q)
   simp at this;omega
theorem Qd.close{a:Nat}(ha:Dn n φ l a):it (bU τ φ l) (n/2) a=a:=by
 have h2:=Q.half;obtain⟨i,i1,i2⟩:=Q.cover ha (Q.iJ ha (n/2));cases i with
 |zero=>exact i2.symm
 |succ i=>
  exfalso;rw[show n/2=(n/2-1)+1 by omega,gY,gY]at i2;have e:=Q.zj (Q.iJ ha i) (Q.iJ ha _) i2;exact Q.once ha i (n/2-1) ac ac e
end
end Go.Proofs.Ytlpbalebodlipaa.PL
set_option linter.unusedVariables false
set_option linter.unusedSimpArgs false
namespace Go.Proofs.Ytlpbalebodlipaa.PL
open Go.RowKit Go.Proofs.YtlpbalebodlipaaW.PrintWords Go.Proofs.YtlpbalebodlipaaW.PrintLast Go.Proofs.YtlpbalebodlipaaW.PrintMore
def eN(f:List Int)(i:Nat):Prop:=rd f i≠i/\rd f (rd f i)=i
def isMap(t f:List Int):Prop:=j6 t/\j6 f/\t.length=f.length/\(∀i:Nat,i<f.length->eN f i)/\∀i j:Nat,i<f.length->j<f.length->Reach [t,f] f.length i j
def mU:List Int->Int->Int
 |[],m=>m
 |x::xs,m=>mU xs (mx m x)
theorem Bm:∀(l:List Int) (m:Int),0<=m->(∀x∈l,0<=x)->0<=mU l m/\(mU l m=0↔m=0/\∀x∈l,x=0)
 |[],m,hm,_=>by simp[mU,hm]
 |x::xs,m,hm,hx=>by
  have G:=hx x ay;have N:0<=mx m x/\(mx m x=0↔m=0/\x=0):=by unfold mx;split<;>omega
  obtain⟨h1,h2⟩:=Bm xs (mx m x) N.1 fun y hy=>hx y (by simp[hy])
  refine⟨h1,?_⟩;simp only[mU,h2,N.2,List.mem_cons,forall_eq_or_imp,and_assoc]
theorem zo(l:List Int)(hl:l.length<=1048576):∀(d i:Nat) (m:Int),l.length-i=d->i<=l.length->Ev (fun k=>dA.l0 k l m i) (mU (l.drop i) m)
 |0,i,m,hd,hi=>by
  refine Ev.s ?_;simp only[dA.l0,show ¬(i:Int)<(l.length:Int) by omega,if_false];rw[List.drop_eq_nil_of_le ac];exact Ev.const rfl
 |d+1,i,m,hd,hi=>by
  have hlt:i<l.length:=ac;refine Ev.s ?_;simp only[dA.l0,show(i:Int)<(l.length:Int) by omega,show(0:Int)<=(i:Int) by omega,if_true];rw[w64 (x:=(i:Int)+1) ac ac,show((i:Int)+1)=((i+1:Nat):Int) by omega,List.drop_eq_getElem_cons hlt,dY l i hlt];exact zo l hl d (i+1) _ ac ac
theorem Gy(l:List Int)(hl:l.length<=1048576)(h1:1<=l.length)(h0:∀x∈l,0<=x):∃m,Ev (fun k=>dA.f k l) m/\(m=0↔∀x∈l,x=0):=by
 cases l with
 |nil=>simp at h1
 |cons x xs=>
  refine⟨mU xs x,?_,?_⟩
  · unfold dA.f
    simp only[show ¬(((x::xs).length:Nat):Int)<1 by omega,show(0:Int)<(((x::xs).length:Nat):Int) by omega,if_true,if_false];exact zo (x::xs) hl _ 1 x rfl h1
  · rw[(Bm xs x (h0 x ay) fun y hy=>h0 y (by simp[hy])).2]
    simp
theorem AF(t f:List Int)(hf:j6 f):∀(d i:Nat),f.length-i=d->i<=f.length->
 ((∀q:Nat,i<=q->q<f.length->eN f q)->∀r,Ev (fun k=>(dU.f k t f).bind fun o=>ck.l1 k o 0) r->Ev (fun k=>ck.l0 k i t f) r)/\(¬(∀q:Nat,i<=q->q<f.length->eN f q)->Ev (fun k=>ck.l0 k i t f) false)
 |0,i,hd,hi=>by
  refine⟨fun _ r h=>Ev.s ?_,fun h=>absurd (fun q h1 h2=>by omega) h⟩;simp only[ck.l0,show ¬(i:Int)<(f.length:Int) by omega,if_false];exact h
 |d+1,i,hd,hi=>by
  have hlt:i<f.length:=ac;have b:=hf.2.1;have hr:=(iY f hf).2 i hlt;have ih:=AF t f hf d (i+1) ac ac;have hw:wrap64 ((i:Int)+1)=((i+1:Nat):Int):=by rw[w64 ac ac];omega
  have g1:(i:Int)<(f.length:Int):=ac;have g2:(0:Int)<=(i:Int):=ac;by_cases c1:rd f i=i
  · refine⟨fun h=>absurd c1 (h i (Nat.le_refl _) hlt).1,fun h=>Ev.s ?_⟩
    simp only[ck.l0,g1,g2,c1,if_true];exact Ev.const rfl
  · by_cases c2:rd f (rd f i)=i
    · refine⟨fun h r A=>Ev.s ?_,fun h=>Ev.s ?_⟩
      · simp only[ck.l0,g1,g2,c1,c2,hr.1,hr.2,if_true,if_false,hw]
        exact ih.1 (fun q h1 h2=>h q ac h2) r A
      · simp only[ck.l0,g1,g2,c1,c2,hr.1,hr.2,if_true,if_false,hw]
        refine ih.2 fun h'=>h fun q h1 h2=>?_
        by_cases e:q=i
        ·rw[e];exact⟨c1,c2⟩
        ·exact h' q ac h2
    · refine⟨fun h=>absurd (h i (Nat.le_refl _) hlt).2 c2,fun h=>Ev.s ?_⟩
      simp only[ck.l0,g1,g2,c1,c2,hr.1,hr.2,if_true,if_false];exact Ev.const rfl
theorem Db(t f:List Int)(hf:j6 f):∀(d i:Nat),f.length-i=d->i<=f.length->
 ((∀q:Nat,i<=q->q<f.length->eN f q)->∀r,Ev (fun k=>(bH.f k [t,f]).bind fun o=>(dA.f k o).bind fun m=>some (m==0)) r->Ev (fun k=>bu.l0 k f f.length i t f) r)/\(¬(∀q:Nat,i<=q->q<f.length->eN f q)->Ev (fun k=>bu.l0 k f f.length i t f) false)
 |0,i,hd,hi=>by
  refine⟨fun _ r h=>Ev.s ?_,fun h=>absurd (fun q h1 h2=>by omega) h⟩;simp only[bu.l0,show ¬(i:Int)<(f.length:Int) by omega,if_false];exact h
 |d+1,i,hd,hi=>by
  have hlt:i<f.length:=ac;have b:=hf.2.1;have hr:=(iY f hf).2 i hlt;have ih:=Db t f hf d (i+1) ac ac;have hw:wrap64 ((i:Int)+1)=((i+1:Nat):Int):=by rw[w64 ac ac];omega
  have g1:(i:Int)<(f.length:Int):=ac;have g2:(0:Int)<=(i:Int):=ac;by_cases c1:rd f i=i
  · refine⟨fun h=>absurd c1 (h i (Nat.le_refl _) hlt).1,fun h=>Ev.s ?_⟩
    simp only[bu.l0,g1,g2,c1,if_true];exact Ev.const rfl
  · by_cases c2:rd f (rd f i)=i
    · refine⟨fun h r A=>Ev.s ?_,fun h=>Ev.s ?_⟩
      · simp only[bu.l0,g1,g2,c1,c2,hr.1,hr.2,if_true,if_false,hw]
        exact ih.1 (fun q h1 h2=>h q ac h2) r A
      · simp only[bu.l0,g1,g2,c1,c2,hr.1,hr.2,if_true,if_false,hw]
        refine ih.2 fun h'=>h fun q h1 h2=>?_
        by_cases e:q=i
        ·rw[e];exact⟨c1,c2⟩
        ·exact h' q ac h2
    · refine⟨fun h=>absurd (h i (Nat.le_refl _) hlt).2 c2,fun h=>Ev.s ?_⟩
      simp only[bu.l0,g1,g2,c1,c2,hr.1,hr.2,if_true,if_false];exact Ev.const rfl
theorem yi(o:List Int)(hl:o.length<=1048576):∀(d i:Nat),o.length-i=d->i<=o.length->
 ((∀q:Nat,i<=q->q<o.length->rd o q=0)->Ev (fun k=>ck.l1 k o i) true)/\(¬(∀q:Nat,i<=q->q<o.length->rd o q=0)->Ev (fun k=>ck.l1 k o i) false)
 |0,i,hd,hi=>by
  refine⟨fun _=>Ev.s ?_,fun h=>absurd (fun q h1 h2=>by omega) h⟩;simp only[ck.l1,show ¬(i:Int)<(o.length:Int) by omega,if_false];exact Ev.const rfl
 |d+1,i,hd,hi=>by
  have hlt:i<o.length:=ac;have ih:=yi o hl d (i+1) ac ac;have hw:wrap64 ((i:Int)+1)=((i+1:Nat):Int):=by rw[w64 ac ac];omega
  have g1:(i:Int)<(o.length:Int):=ac;have g2:(0:Int)<=(i:Int):=ac;by_cases c:rd o i=0
  · refine⟨fun h=>Ev.s ?_,fun h=>Ev.s ?_⟩
    · simp only[ck.l1,g1,g2,c,if_true,hw]
      exact ih.1 fun q h1 h2=>h q ac h2
    · simp only[ck.l1,g1,g2,c,if_true,hw]
      refine ih.2 fun h'=>h fun q h1 h2=>?_
      by_cases e:q=i
      ·rw[e];exact c
      ·exact h' q ac h2
  · refine⟨fun h=>absurd (h i (Nat.le_refl _) hlt) c,fun h=>Ev.s ?_⟩
    simp only[ck.l1,g1,g2,c,if_true,if_false];exact Ev.const rfl
theorem Bu(t f:List Int)(n:Nat)(h1:1<=n)(ht:inR n t)(hf:inR n f)(o:List Int)(ho:mj [t,f] n o):(∀q:Nat,q<n->rd o q=0)↔∀i j:Nat,i<n->j<n->Reach [t,f] n i j:=by
 have u:∀p∈[t,f],inR n p:=by intro p hp;simp at hp;rcases hp with rfl|rfl<;>assumption
 constructor
 · intro h i j hi hj
   have e1:=(ho.1.2 i hi).2.2;have e2:=(ho.1.2 j hj).2.2;rw[h i hi]at e1;rw[h j hj]at e2;exact e1.symm.trans e2
 · intro h q hq
   have:=vW ho u (h q 0 hq ac);have h0:=ho.1.2 0 ac;omega
theorem mB(t f:List Int)(ht:t.length<=1048576)(hf:f.length<=1048576):∃b:Bool,Ev (fun k=>ck.f k t f) b/\Ev (fun k=>bu.f k t f) b/\(b=true↔isMap t f):=by
 obtain⟨bt,t1,t2,t3⟩:=sJ t ht;obtain⟨bf,f1,f2,f3⟩:=sJ f hf
 have hb:∀b:Bool,(∃c:Bool,Ev (fun k=>jb.f k t f) c/\(c=true↔j6 t/\j6 f/\t.length=f.length)):=fun _=>by
  unfold jb.f;cases bt with
  |false=>exact⟨false,Ev.bind t1 (Ev.const rfl),⟨fun h=>(by cases h),fun h=>absurd (t3.2 h.1) af⟩⟩
  |true=>
   cases bf with
   |false=>exact⟨false,Ev.bind t1 (by simp only[if_true];exact Ev.bind f1 (Ev.const rfl)),⟨fun h=>(by cases h),fun h=>absurd (f3.2 h.2.1) af⟩⟩
   |true=>exact⟨((t.length:Int)==(f.length:Int)),Ev.bind t1 (by simp only[if_true];exact Ev.bind f1 (Ev.const rfl)),⟨fun h=>⟨t3.1 rfl,f3.1 rfl,by have:=beq_iff_eq.1 h;omega⟩,fun h=>by rw[beq_iff_eq];omega⟩⟩
 obtain⟨c,c1,c2⟩:=hb true;by_cases hall:j6 t/\j6 f/\t.length=f.length
 · obtain⟨pt,pf,N⟩:=hall
   have hc:c=true:=c2.2 ⟨pt,pf,N⟩;subst hc;have w:bt=true:=t3.2 pt;have y:bf=true:=f3.2 pf;subst w;subst y;have B:(((t.length:Int)) !=(f.length:Int))=false:=by rw[bne_eq_false_iff_eq];omega
   have j:inR f.length t:=by have:=iY t pt;rwa [N]at this
   have v:=iY f pf;obtain⟨o,o1,o2,o3⟩:=yJ t f f.length pf.2.1 pf.1 j v
   have hS:∀r,Ev (fun k=>ck.l0 k 0 t f) r->Ev (fun k=>ck.f k t f) r:=fun r h=>by
    unfold ck.f;refine Ev.bind c1 ?_;simp only[if_true];exact h
   have hI:∀r,Ev (fun k=>bu.l0 k f f.length 0 t f) r->Ev (fun k=>bu.f k t f) r:=fun r h=>by
    unfold bu.f;refine Ev.bind t2 ?_;simp only[if_true];refine Ev.bind f2 ?_;simp only[if_true,B];refine Ev.s ?_;simp only[bu.j0,Bool.false_eq_true,if_false];exact h
   have sF:=AF t f pf f.length 0 ac ac;have iF:=Db t f pf f.length 0 ac ac;by_cases E:∀q:Nat,0<=q->q<f.length->eN f q
   · have zr:=yi o (by rw[o1.1.1];omega) o.length 0 ac ac
     have oz:=Bu t f f.length pf.1 j v o o1
     obtain⟨m,m1,m2⟩:=Gy o (by rw[o1.1.1];omega) (by rw[o1.1.1];exact pf.1) (fun x hx=>by
      obtain⟨i,hi,rfl⟩:=List.mem_iff_getElem.1 hx;have:=(o1.1.2 i (by rw[<-o1.1.1];exact hi)).1
      rwa [dY o i hi]at this)
     have u:m=0↔∀q:Nat,0<=q->q<o.length->rd o q=0:=by
      rw[m2];constructor
      · intro h q _ hq
        rw[dY o q hq];exact h _ (List.getElem_mem hq)
      · intro h x hx
        obtain⟨i,hi,rfl⟩:=List.mem_iff_getElem.1 hx;have:=h i ac hi
        rwa [dY o i hi]at this
     by_cases hz:∀q:Nat,0<=q->q<o.length->rd o q=0
     · refine⟨true,hS _ (sF.1 E _ (Ev.bind o2 (zr.1 hz))),hI _ (iF.1 E _ (Ev.bind o3 (Ev.bind m1 (Ev.const ?_)))),?_⟩
       ·rw[u.2 hz];rfl
       ·refine⟨fun _=>⟨pt,pf,N,fun i hi=>E i ac hi,oz.1 fun q hq=>hz q ac (by rw[o1.1.1];exact hq)⟩,fun _=>rfl⟩
     · refine⟨false,hS _ (sF.1 E _ (Ev.bind o2 (zr.2 hz))),hI _ (iF.1 E _ (Ev.bind o3 (Ev.bind m1 (Ev.const ?_)))),?_⟩
       · have:¬m=0:=fun e=>hz (u.1 e)
         simp[this]
       ·exact⟨fun h=>(by cases h),fun h=>absurd (fun q _ hq=>oz.2 h.2.2.2.2 q (by rw[<-o1.1.1];exact hq)) hz⟩
   ·exact⟨false,hS _ (sF.2 E),hI _ (iF.2 E),⟨fun h=>(by cases h),fun h=>absurd (fun q _ hq=>h.2.2.2.1 q hq) E⟩⟩
 · have hc:c=false:=by
    cases c with
    |false=>rfl
    |true=>exact absurd (c2.1 rfl) hall
   subst hc;refine⟨false,?_,?_,⟨fun h=>(by cases h),fun h=>absurd ⟨h.1,h.2.1,h.2.2.1⟩ hall⟩⟩
   · unfold ck.f
     exact Ev.bind c1 (Ev.const rfl)
   · have hj:Ev (fun k=>bu.j0 k true t f) false:=by
      refine Ev.s ?_;simp only[bu.j0,if_true];exact Ev.const rfl
     unfold bu.f;refine Ev.bind t2 ?_;cases bt with
     |false=>simp only[Bool.false_eq_true,if_false];exact hj
     |true=>
      simp only[if_true];refine Ev.bind f2 ?_;cases bf with
      |false=>simp only[Bool.false_eq_true,if_false];exact hj
      |true=>
       have B:(((t.length:Int)) !=(f.length:Int))=true:=by
        rw[bne_iff_ne];intro e;exact hall ⟨t3.1 rfl,f3.1 rfl,ac⟩
       simp only[if_true,B];exact hj
theorem uk(h:Nat->Int)(n d:Nat)(hd:d<n):rd ((List.range n).map h) (d:Int)=h d:=by
 rw[dY _ _ (by simp;exact hd)];simp
def cmpL(t p:List Int)(n:Nat):List Int:=(List.range n).map fun(d:Nat)=>rd t (rd p (d:Int))
theorem eI(t p:List Int)(n d:Nat)(h:d<n):rd (cmpL t p n) (d:Int)=rd t (rd p (d:Int)):=uk _ n d h
theorem iz(t p:List Int)(n:Nat)(ht:inR n t)(hp:inR n p):inR n (cmpL t p n):=⟨by simp[cmpL],fun i hi=>by
 rw[eI _ _ _ _ hi];have h1:=hp.2 i hi;have h2:=ht.2 (rd p i).toNat ac
 rwa [show((rd p i).toNat:Int)=rd p i by omega]at h2⟩
theorem jM(t p:List Int)(n:Nat)(ht:inR n t)(hti:bL n t)(hp:inR n p)(b:bL n p):bL n (cmpL t p n):=fun i j hi hj e=>by
 rw[eI _ _ _ _ hi,eI _ _ _ _ hj]at e;have h1:=hp.2 i hi;have h2:=hp.2 j hj;refine b i j hi hj ?_;have:=hti (rd p i).toNat (rd p j).toNat ac ac (by rw[show((rd p i).toNat:Int)=rd p i by omega,show((rd p j).toNat:Int)=rd p j by omega];exact e);omega
def bM(f:List Int)(n m:Nat):List Int:=(List.range n).map fun(d:Nat)=>if d<m\/rd f (d:Int)<(m:Int)then rd f (d:Int)else(d:Int)
theorem iO(f:List Int)(n m d:Nat)(h:d<n):rd (bM f n m) (d:Int)=if d<m\/rd f (d:Int)<(m:Int)then rd f (d:Int)else(d:Int):=uk _ n d h
theorem yr(f:List Int)(n m:Nat)(hf:inR n f):inR n (bM f n m):=⟨by simp[bM],fun i hi=>by
 rw[iO _ _ _ _ hi];have:=hf.2 i hi;split<;>omega⟩
theorem Do(f:List Int)(n m:Nat)(hf:inR n f)(E:∀i:Nat,i<n->eN f i):bL n (bM f n m):=fun i j hi hj e=>by
 have back:∀d:Nat,d<n->rd (bM f n m) (rd (bM f n m) (d:Int))=d:=by
  intro d hd;have h1:=hf.2 d hd;have h2:=(E d hd).2;obtain⟨b,hb⟩:∃b:Nat,rd f d=b:=⟨(rd f d).toNat,ac⟩;rw[iO _ _ _ d hd,hb];rw[hb]at h1 h2;by_cases c:d<m\/(b:Int)<(m:Int)
  ·rw[if_pos c,iO _ _ _ b ac,h2,if_pos ac]
  ·rw[if_neg c,iO _ _ _ d hd,hb,if_neg c]
 have:=congrArg (rd (bM f n m)) e;rw[back i hi,back j hj]at this;omega
def kE(f:List Int):Nat->Nat
 |0=>0
 |m+1=>if(m:Int)<rd f (m:Int)then kE f m+1 else kE f m
def om(f:List Int):Nat->Nat
 |0=>0
 |m+1=>if rd f (m:Int)<(m:Int)then om f m+1 else om f m
theorem zB(f:List Int)(n:Nat):∀m,m<=n->cm n (fun d=>d<m/\(d:Int)<rd f (d:Int)) (kE f m)
 |0,_=>⟨[],List.nodup_nil,fun x=>by simp,rfl⟩
 |m+1,hm=>by
  obtain⟨L,h1,h2,h3⟩:=zB f n m ac;simp only[kE];by_cases c:(m:Int)<rd f (m:Int)
  · rw[if_pos c]
    refine⟨m::L,List.nodup_cons.2 ⟨fun z=>by have:=((h2 m).1 z).2.1;omega,h1⟩,fun x=>?_,by simp[h3]⟩;rw[List.mem_cons,h2];constructor
    · rintro(rfl|⟨a,b,b'⟩)
      ·exact⟨ac,ac,c⟩
      ·exact⟨a,ac,b'⟩
    · rintro⟨a,b,b'⟩
      by_cases e:x=m
      ·exact .inl e
      ·exact .inr ⟨a,ac,b'⟩
  · rw[if_neg c]
    refine⟨L,h1,fun x=>?_,h3⟩;rw[h2];constructor
    ·rintro⟨a,b,b'⟩;exact⟨a,ac,b'⟩
    · rintro⟨a,b,b'⟩
      by_cases e:x=m
      ·subst e;exact absurd b' c
      ·exact⟨a,ac,b'⟩
theorem BR(f:List Int)(n:Nat):∀m,m<=n->cm n (fun d=>d<m/\rd f (d:Int)<(d:Int)) (om f m)
 |0,_=>⟨[],List.nodup_nil,fun x=>by simp,rfl⟩
 |m+1,hm=>by
  obtain⟨L,h1,h2,h3⟩:=BR f n m ac;simp only[om];by_cases c:rd f (m:Int)<(m:Int)
  · rw[if_pos c]
    refine⟨m::L,List.nodup_cons.2 ⟨fun z=>by have:=((h2 m).1 z).2.1;omega,h1⟩,fun x=>?_,by simp[h3]⟩;rw[List.mem_cons,h2];constructor
    · rintro(rfl|⟨a,b,b'⟩)
      ·exact⟨ac,ac,c⟩
      ·exact⟨a,ac,b'⟩
    · rintro⟨a,b,b'⟩
      by_cases e:x=m
      ·exact .inl e
      ·exact .inr ⟨a,ac,b'⟩
  · rw[if_neg c]
    refine⟨L,h1,fun x=>?_,h3⟩;rw[h2];constructor
    ·rintro⟨a,b,b'⟩;exact⟨a,ac,b'⟩
    · rintro⟨a,b,b'⟩
      by_cases e:x=m
      ·subst e;exact absurd b' c
      ·exact⟨a,ac,b'⟩
theorem xZ(f:List Int)(n:Nat)(E:∀i:Nat,i<n->eN f i):∀m,m<=n->kE f m+om f m=m
 |0,_=>rfl
 |m+1,hm=>by
  have ih:=xZ f n E m ac;have B:=(E m ac).1;simp only[kE,om];split<;>split<;>omega
theorem Hq(f:List Int)(n:Nat)(hf:inR n f)(E:∀i:Nat,i<n->eN f i):2*kE f n=n:=by
 have h1:=xZ f n E n (Nat.le_refl _);have c1:=zB f n n (Nat.le_refl _);have c2:=BR f n n (Nat.le_refl _)
 have b:∀x y:Nat,x<n->y<n->(rd f x).toNat=(rd f y).toNat->x=y:=fun x y hx hy e=>by
  have r1:=hf.2 x hx;have r2:=hf.2 y hy;have e1:=(E x hx).2;have e2:=(E y hy).2;rw[show rd f x=rd f y by omega,e2]at e1;omega
 have c:∀x:Nat,x<n->((rd f x).toNat:Int)=rd f x:=fun x hx=>by have:=hf.2 x hx;omega
 have l1:=c1.le c2 (fun d=>(rd f d).toNat) (fun x hx hp=>by
  have r1:=hf.2 x hx;refine⟨ac,ac,?_⟩;rw[c x hx,(E x hx).2];exact hp.2) (fun x y hx _ hy _ e=>b x y hx hy e)
 have l2:=c2.le c1 (fun d=>(rd f d).toNat) (fun x hx hp=>by
  have r1:=hf.2 x hx;refine⟨ac,ac,?_⟩;rw[c x hx,(E x hx).2];exact hp.2) (fun x y hx _ hy _ e=>b x y hx hy e)
 omega
theorem xn(t p:List Int)(n:Nat)(hp:inR n p)(x y:Nat)(h:Reach [cmpL t p n] n x y):Reach [t,p] n x y:=by
 intro S hS;refine h S fun q hq k hk=>?_
 rw[List.mem_singleton.1 hq,eI t p n k hk];have fr:=hp.2 k hk;have h1:=hS p ay k hk;have h2:=hS t ay (rd p k).toNat ac;rw[show(((rd p k).toNat:Nat):Int)=rd p k by omega]at h2;exact h1.trans h2
theorem ye(t f:List Int)(n:Nat)(ht:inR n t)(hti:bL n t)(hf:inR n f)(E:∀i:Nat,i<n->eN f i):∀m,m<=n->
 ∃P V S g,Cl n (Reach [t,bM f n m] n) P/\Cl n (Reach [t] n) V/\Cl n (Reach [cmpL t (bM f n m) n] n) S/\2*P+kE f m=V+S+2*g
 |0,_=>by
  obtain⟨V,hV,_⟩:=Cl.ex n (Reach [t] n)
  have e0:∀k:Nat,k<n->rd (bM f n 0) (k:Int)=k:=fun k hk=>by
   rw[iO _ _ _ _ hk,if_neg];have:=hf.2 k hk;omega
  have e1:∀x y,Reach [t,bM f n 0] n x y↔Reach [t] n x y:=by
   intro x y;constructor
   · intro h S hS
     refine h S fun p hp k hk=>?_
     rcases List.mem_cons.1 hp with rfl|hp
     ·exact hS p ay k hk
     ·rw[List.mem_singleton.1 hp,e0 k hk,Int.toNat_natCast]
   · intro h S hS
     exact h S fun p hp k hk=>by rw[List.mem_singleton.1 hp];exact hS t ay k hk
  have e2:cmpL t (bM f n 0) n=t:=by
   refine jV _ _ (by simp[cmpL,ht.1]) fun d hd=>?_
   have s:d<n:=by simpa [cmpL]using hd
   rw[eI _ _ _ _ s,e0 d s]
  exact⟨V,V,V,0,cm.congr hV fun x hx=>⟨fun z i hi hr=>z i hi ((e1 i x).1 hr),fun z i hi hr=>z i hi ((e1 i x).2 hr)⟩,hV,by rw[e2];exact hV,by simp only[kE];omega⟩
 |m+1,hm=>by
  obtain⟨P,V,S,g,hP,hV,hS,hE⟩:=ye t f n ht hti hf E m ac;have j:m<n:=ac;have fm:=hf.2 m j;have fl:=E m j;obtain⟨b,hb⟩:∃b:Nat,rd f m=b:=⟨(rd f m).toNat,ac⟩;rw[hb]at fm;have G:(b:Int)≠m:=by have:=fl.1;rwa [hb]at this
  have F:rd f b=m:=by have:=fl.2;rwa [hb]at this
  have A:b<n:=ac
  have u:∀d:Nat,d<n->rd f d=m->d=b:=fun d hd e=>by
   have:=(E d hd).2;rw[e,hb]at this;omega
  by_cases c:b<m
  · have e:bM f n (m+1)=bM f n m:=by
     refine jV _ _ (by simp[bM]) fun d hd=>?_
     have s:d<n:=by simpa [bM]using hd
     have C:=hf.2 d s;rw[iO _ _ _ _ s,iO _ _ _ _ s];by_cases c1:d<m\/rd f d<m
     ·rw[if_pos c1,if_pos ac]
     · by_cases c2:d=m
       ·subst c2;exact absurd (.inr ac) c1
       · by_cases c3:rd f d=m
         ·exact absurd (u d s c3) ac
         ·rw[if_neg c1,if_neg ac]
    rw[e];refine⟨P,V,S,g,hP,hV,hS,?_⟩;simp only[kE];rw[if_neg ac];exact hE
  · have o:m≠b:=ac
    obtain⟨P',v,_⟩:=Cl.ex n (Reach [t,bM f n (m+1)] n);obtain⟨S',w,_⟩:=Cl.ex n (Reach [cmpL t (bM f n (m+1)) n] n);have p0:=yr f n m hf;have p1:=yr f n (m+1) hf;have pa:rd (bM f n m) (m:Int)=m:=by rw[iO _ _ _ _ j,if_neg ac]
    have pb:rd (bM f n m) (b:Int)=b:=by rw[iO _ _ _ _ A,if_neg ac]
    have qa:rd (bM f n (m+1)) (m:Int)=b:=by rw[iO _ _ _ _ j,if_pos ac,hb]
    have qb:rd (bM f n (m+1)) (b:Int)=m:=by rw[iO _ _ _ _ A,if_pos ac,F]
    have qx:∀x:Nat,x<n->x≠m->x≠b->rd (bM f n (m+1)) (x:Int)=rd (bM f n m) (x:Int):=fun x hx h1 h2=>by
     rw[iO _ _ _ _ hx,iO _ _ _ _ hx];have B:rd f x≠m:=fun e=>h2 (u x hx e)
     by_cases c1:x<m\/rd f x<m
     ·rw[if_pos c1,if_pos ac]
     ·rw[if_neg c1,if_neg ac]
    have ex:lD n (cmpL t (bM f n m) n) (cmpL t (bM f n (m+1)) n) m b:=by
     refine⟨j,A,o,?_,?_,fun x hx h1 h2=>?_⟩
     ·rw[eI _ _ _ _ j,eI _ _ _ _ A,qa,pb]
     ·rw[eI _ _ _ _ j,eI _ _ _ _ A,qb,pa]
     ·rw[eI _ _ _ _ hx,eI _ _ _ _ hx,qx x hx h1 h2]
    obtain⟨s1,s2⟩:=Dw (iz t _ n ht p0) (iz t _ n ht p1) (jM t _ n ht hti p0 (Do f n m hf E)) (jM t _ n ht hti p1 (Do f n (m+1) hf E)) ex hS w
    have up:∀x y,Reach [t,bM f n m] n x y->Reach [t,bM f n (m+1)] n x y:=by
     intro x y h T hT;refine h T fun p hp k hk=>?_
     rcases List.mem_cons.1 hp with rfl|hp
     ·exact hT p ay k hk
     · rw[List.mem_singleton.1 hp]
       by_cases k1:k=m
       ·subst k1;rw[pa,Int.toNat_natCast]
       · by_cases k2:k=b
         ·subst k2;rw[pb,Int.toNat_natCast]
         · rw[<-qx k hk k1 k2]
           exact hT _ ay k hk
    have hj:Reach [t,bM f n (m+1)] n m b:=by
     have:=Reach.step (ps:=[t,bM f n (m+1)]) (p:=bM f n (m+1)) ay j
     rwa [qa,Int.toNat_natCast]at this
    have rel:∀x y,Reach [t,bM f n (m+1)] n x y↔Reach [t,bM f n m] n x y\/(Reach [t,bM f n m] n x m/\Reach [t,bM f n m] n b y)\/(Reach [t,bM f n m] n x b/\Reach [t,bM f n m] n m y):=by
     intro x y;constructor
     · intro h
       have L:kW [t,bM f n (m+1)] n (fun z=>Reach [t,bM f n m] n x z\/(Reach [t,bM f n m] n x m/\Reach [t,bM f n m] n b z)\/(Reach [t,bM f n m] n x b/\Reach [t,bM f n m] n m z)):=by
        have same:∀k k':Nat,Reach [t,bM f n m] n k k'->((Reach [t,bM f n m] n x k\/(Reach [t,bM f n m] n x m/\Reach [t,bM f n m] n b k)\/(Reach [t,bM f n m] n x b/\Reach [t,bM f n m] n m k))↔(Reach [t,bM f n m] n x k'\/(Reach [t,bM f n m] n x m/\Reach [t,bM f n m] n b k')\/(Reach [t,bM f n m] n x b/\Reach [t,bM f n m] n m k'))):=fun k k' hr=>
            ⟨fun z=>z.elim (fun z=>.inl (z.trans hr)) fun z=>z.elim (fun z=>.inr (.inl ⟨z.1,z.2.trans hr⟩)) fun z=>.inr (.inr ⟨z.1,z.2.trans hr⟩),
             fun z=>z.elim (fun z=>.inl (z.trans hr.symm)) fun z=>z.elim (fun z=>.inr (.inl ⟨z.1,z.2.trans hr.symm⟩)) fun z=>.inr (.inr ⟨z.1,z.2.trans hr.symm⟩)⟩
        intro p hp k hk;rcases List.mem_cons.1 hp with rfl|hp
        ·exact same _ _ (Reach.step ay hk)
        · rw[List.mem_singleton.1 hp]
          by_cases k1:k=m
          · subst k1
            rw[qa,Int.toNat_natCast];constructor
            · rintro(z|z|z)
              ·exact .inr (.inl ⟨z,Reach.refl _ _ _⟩)
              ·exact .inr (.inl ⟨z.1,Reach.refl _ _ _⟩)
              ·exact .inl z.1
            · rintro(z|z|z)
              ·exact .inr (.inr ⟨z,Reach.refl _ _ _⟩)
              ·exact .inl z.1
              ·exact .inr (.inr ⟨z.1,Reach.refl _ _ _⟩)
          · by_cases k2:k=b
            · subst k2
              rw[qb,Int.toNat_natCast];constructor
              · rintro(z|z|z)
                ·exact .inr (.inr ⟨z,Reach.refl _ _ _⟩)
                ·exact .inl z.1
                ·exact .inr (.inr ⟨z.1,Reach.refl _ _ _⟩)
              · rintro(z|z|z)
                ·exact .inr (.inl ⟨z,Reach.refl _ _ _⟩)
                ·exact .inr (.inl ⟨z.1,Reach.refl _ _ _⟩)
                ·exact .inl z.1
            · rw[qx k hk k1 k2]
              exact same _ _ (Reach.step ay hk)
       exact(h _ L).1 (.inl (Reach.refl _ _ _))
     · rintro(z|z|z)
       ·exact up _ _ z
       ·exact(up _ _ z.1).trans (hj.trans (up _ _ z.2))
       ·exact(up _ _ z.1).trans (hj.symm.trans (up _ _ z.2))
    have hk:kE f (m+1)=kE f m+1:=by
     simp only[kE];rw[if_pos ac]
    by_cases r:Reach [t,bM f n m] n m b
    · have H:P'=P:=Cl.uniq v (cm.congr hP fun x hx=>⟨fun z i hi hr=>z i hi (by
       rcases(rel i x).1 hr with q|q|q
       ·exact q
       ·exact q.1.trans (r.trans q.2)
       ·exact q.1.trans (r.symm.trans q.2)),fun z i hi hr=>z i hi (up _ _ hr)⟩)
      by_cases q:Reach [cmpL t (bM f n m) n] n m b
      · have:=s2 q
        exact⟨P',V,S',g,v,hV,w,ac⟩
      · have:=s1 q
        exact⟨P',V,S',g+1,v,hV,w,ac⟩
    · have q:¬Reach [cmpL t (bM f n m) n] n m b:=fun q=>r (xn t _ n p0 m b q)
      have h1:=s1 q;obtain⟨h2,h3⟩:=Cl.merge (S:=Reach [t,bM f n (m+1)] n) (fun x=>Reach.refl _ _ x) (fun _ _ h=>h.symm) (fun _ _ _ h h'=>h.trans h') hP m b j A r rel;have:=Cl.uniq v h3;exact⟨P',V,S',g,v,hV,w,ac⟩
theorem Fp(t f:List Int)(n:Nat)(ht:inR n t)(hti:bL n t)(hf:inR n f)(E:∀i:Nat,i<n->eN f i)(P V S:Nat)(hP:Cl n (Reach [t,f] n) P)(hV:Cl n (Reach [t] n) V)(hS:Cl n (Reach [cmpL t f n] n) S):
 ∃K g,2*K=n/\2*P+K=V+S+2*g:=by
 obtain⟨P',V',S',g,h1,h2,h3,h4⟩:=ye t f n ht hti hf E n (Nat.le_refl _)
 have e:bM f n n=f:=by
  refine jV _ _ (by simp[bM,hf.1]) fun d hd=>?_
  have s:d<n:=by simpa [bM]using hd
  rw[iO _ _ _ _ s,if_pos ac]
 rw[e]at h1 h3;rw[Cl.uniq hP h1,Cl.uniq hV h2,Cl.uniq hS h3];exact⟨kE f n,g,Hq f n hf E,h4⟩
def fx(f:List Int)(n:Nat)(ch:Nat->Bool):List Int:=(List.range n).map fun(d:Nat)=>if ch d=true then rd f (d:Int)else(d:Int)
theorem jN(f:List Int)(n:Nat)(ch:Nat->Bool)(d:Nat)(h:d<n):rd (fx f n ch) (d:Int)=if ch d=true then rd f (d:Int)else(d:Int):=uk _ n d h
theorem kn(f:List Int)(n:Nat)(ch:Nat->Bool)(hf:inR n f):inR n (fx f n ch):=⟨by simp[fx],fun i hi=>by
 rw[jN f n ch i hi];have:=hf.2 i hi;split<;>omega⟩
def kv(f:List Int)(n:Nat)(ch:Nat->Bool):Prop:=∀d:Nat,d<n->ch (rd f (d:Int)).toNat=ch d
theorem vZ(f:List Int)(n:Nat)(ch:Nat->Bool)(hf:inR n f)(E:∀i:Nat,i<n->eN f i)(hi:kv f n ch):bL n (fx f n ch):=fun i j h1 h2 e=>by
 rw[jN f n ch i h1,jN f n ch j h2]at e;have a1:=hf.2 i h1;have a2:=hf.2 j h2;have b1:=hi i h1;have b2:=hi j h2;have f1:=(E i h1).2;have f2:=(E j h2).2;by_cases c1:ch i=true<;>by_cases c2:ch j=true
 · rw[if_pos c1,if_pos c2]at e
   rw[e]at f1;omega
 · rw[if_pos c1,if_neg c2]at e
   rw[e,Int.toNat_natCast]at b1;exact absurd (b1.trans c1) c2
 · rw[if_neg c1,if_pos c2]at e
   rw[<-e,Int.toNat_natCast]at b2;exact absurd (b2.trans c2) c1
 · rw[if_neg c1,if_neg c2]at e
   omega
section
variable (t f:List Int) (n:Nat) (ht:inR n t) (hti:bL n t) (hf:inR n f) (E:∀i:Nat,i<n->eN f i)
include ht hti hf E
theorem Bz(ch c:Nat->Bool)(hi:kv f n ch)(hi':kv f n c)(a b:Nat)(ha:a<n)(hb:b<n)(e2:rd f a=b)(ua:ch a=false)(r:∀d:Nat,d<n->c d=(ch d||decide (d=a\/d=b)))
 (P S P' S':Nat) (hP:Cl n (Reach [t,fx f n ch] n) P) (hS:Cl n (Reach [cmpL t (fx f n ch) n] n) S) (v:Cl n (Reach [t,fx f n c] n) P') (w:Cl n (Reach [cmpL t (fx f n c) n] n) S'):
 (Reach [t,fx f n ch] n a b->P'=P)/\(¬Reach [t,fx f n ch] n a b->P'+1=P)/\(¬Reach [cmpL t (fx f n ch) n] n a b->S'+1=S)/\(Reach [cmpL t (fx f n ch) n] n a b->S'=S+1):=by
 have e3:rd f b=a:=by rw[<-e2];exact(E a ha).2
 have o:a≠b:=fun e=>(E a ha).1 (by rw[e2,e])
 have ub:ch b=false:=by
  have:=hi a ha;rw[e2,Int.toNat_natCast]at this;rw[this,ua]
 have fa:rd (fx f n ch) a=a:=by rw[jN f n ch a ha,ua];simp
 have fb:rd (fx f n ch) b=b:=by rw[jN f n ch b hb,ub];simp
 have j:rd (fx f n c) a=b:=by rw[jN f n _ a ha,r a ha];simp[e2]
 have m:rd (fx f n c) b=a:=by rw[jN f n _ b hb,r b hb];simp[e3]
 have fo:∀d:Nat,d<n->d≠a->d≠b->rd (fx f n c) d=rd (fx f n ch) d:=by
  intro d hd ka kb;rw[jN f n _ d hd,jN f n _ d hd,r d hd];simp[ka,kb]
 have rel:∀x y,Reach [t,fx f n c] n x y↔Reach [t,fx f n ch] n x y\/(Reach [t,fx f n ch] n x a/\Reach [t,fx f n ch] n b y)\/(Reach [t,fx f n ch] n x b/\Reach [t,fx f n ch] n a y):=by
  have up:∀x y,Reach [t,fx f n ch] n x y->Reach [t,fx f n c] n x y:=by
   intro x y h S hS;refine h S fun p hp k hk=>?_
   rcases List.mem_cons.1 hp with rfl|hp
   ·exact hS p ay k hk
   · rw[List.mem_singleton.1 hp]
     by_cases ka:k=a
     ·subst ka;rw[fa,Int.toNat_natCast]
     · by_cases kb:k=b
       ·subst kb;rw[fb,Int.toNat_natCast]
       · rw[<-fo k hk ka kb]
         exact hS _ ay k hk
  have q:Reach [t,fx f n c] n a b:=by
   have:=Reach.step (ps:=[t,fx f n c]) (n:=n) (p:=fx f n c) ay ha
   rwa [j,Int.toNat_natCast]at this
  intro x y;constructor
  · intro h
    refine(h (fun z=>Reach [t,fx f n ch] n x z\/(Reach [t,fx f n ch] n x a/\Reach [t,fx f n ch] n b z)\/(Reach [t,fx f n ch] n x b/\Reach [t,fx f n ch] n a z)) ?_).1 (.inl (Reach.refl _ _ _));intro p hp k hk;rcases List.mem_cons.1 hp with rfl|hp
    · have s:=Reach.step (ps:=[p,fx f n ch]) (n:=n) (p:=p) ay hk
      constructor
      · rintro(z|⟨z1,z2⟩|⟨z1,z2⟩)
        ·exact .inl (z.trans s)
        ·exact .inr (.inl ⟨z1,z2.trans s⟩)
        ·exact .inr (.inr ⟨z1,z2.trans s⟩)
      · rintro(z|⟨z1,z2⟩|⟨z1,z2⟩)
        ·exact .inl (z.trans s.symm)
        ·exact .inr (.inl ⟨z1,z2.trans s.symm⟩)
        ·exact .inr (.inr ⟨z1,z2.trans s.symm⟩)
    · rw[List.mem_singleton.1 hp]
      by_cases ka:k=a
      · subst ka
        rw[j,Int.toNat_natCast];constructor
        · rintro(z|⟨z1,z2⟩|⟨z1,z2⟩)
          ·exact .inr (.inl ⟨z,Reach.refl _ _ _⟩)
          ·exact .inr (.inl ⟨z1,Reach.refl _ _ _⟩)
          ·exact .inl z1
        · rintro(z|⟨z1,z2⟩|⟨z1,z2⟩)
          ·exact .inr (.inr ⟨z,Reach.refl _ _ _⟩)
          ·exact .inl z1
          ·exact .inr (.inr ⟨z1,Reach.refl _ _ _⟩)
      · by_cases kb:k=b
        · subst kb
          rw[m,Int.toNat_natCast];constructor
          · rintro(z|⟨z1,z2⟩|⟨z1,z2⟩)
            ·exact .inr (.inr ⟨z,Reach.refl _ _ _⟩)
            ·exact .inl z1
            ·exact .inr (.inr ⟨z1,Reach.refl _ _ _⟩)
          · rintro(z|⟨z1,z2⟩|⟨z1,z2⟩)
            ·exact .inr (.inl ⟨z,Reach.refl _ _ _⟩)
            ·exact .inr (.inl ⟨z1,Reach.refl _ _ _⟩)
            ·exact .inl z1
        · have s:=Reach.step (ps:=[t,fx f n ch]) (n:=n) (p:=fx f n ch) ay hk
          rw[fo k hk ka kb];constructor
          · rintro(z|⟨z1,z2⟩|⟨z1,z2⟩)
            ·exact .inl (z.trans s)
            ·exact .inr (.inl ⟨z1,z2.trans s⟩)
            ·exact .inr (.inr ⟨z1,z2.trans s⟩)
          · rintro(z|⟨z1,z2⟩|⟨z1,z2⟩)
            ·exact .inl (z.trans s.symm)
            ·exact .inr (.inl ⟨z1,z2.trans s.symm⟩)
            ·exact .inr (.inr ⟨z1,z2.trans s.symm⟩)
  · rintro(z|⟨z1,z2⟩|⟨z1,z2⟩)
    ·exact up _ _ z
    ·exact(up _ _ z1).trans (q.trans (up _ _ z2))
    ·exact(up _ _ z1).trans (q.symm.trans (up _ _ z2))
 have ex:lD n (cmpL t (fx f n ch) n) (cmpL t (fx f n c) n) a b:=by
  refine⟨ha,hb,o,?_,?_,fun x hx ka kb=>?_⟩
  ·rw[eI t _ n a ha,eI t _ n b hb,j,fb]
  ·rw[eI t _ n a ha,eI t _ n b hb,m,fa]
  ·rw[eI t _ n x hx,eI t _ n x hx,fo x hx ka kb]
 have xc:=Dw (iz t _ n ht (kn f n ch hf)) (iz t _ n ht (kn f n c hf)) (jM t _ n ht hti (kn f n ch hf) (vZ f n ch hf E hi)) (jM t _ n ht hti (kn f n c hf) (vZ f n c hf E hi')) ex hS w;refine⟨fun h=>?_,fun h=>?_,xc.1,xc.2⟩
 · refine cm.same v hP fun x hx=>?_
   have:∀i,Reach [t,fx f n c] n i x↔Reach [t,fx f n ch] n i x:=fun i=>by
    rw[rel];exact⟨fun z=>z.elim id (fun z=>z.elim (fun z=>z.1.trans (h.trans z.2)) (fun z=>z.1.trans (h.symm.trans z.2))),.inl⟩
   exact⟨fun z i hi hr=>z i hi ((this i).2 hr),fun z i hi hr=>z i hi ((this i).1 hr)⟩
 · have:=Cl.merge (S:=Reach [t,fx f n c] n) (fun x=>Reach.refl _ _ x) (fun _ _ h=>h.symm) (fun _ _ _ h h'=>h.trans h') hP a b ha hb h rel
   have u:=Cl.uniq v this.2;omega
theorem yT:∀(m:Nat) (ch:Nat->Bool),kv f n ch->cm n (fun d=>ch d=true) (2*m)->∀P S V,Cl n (Reach [t,fx f n ch] n) P->Cl n (Reach [cmpL t (fx f n ch) n] n) S->Cl n (Reach [t] n) V->V+S<=2*P+m
 |0,ch,hi,hc,P,S,V,hP,hS,hV=>by
  have none:∀d,d<n->¬ch d=true:=fun d hd h=>by
   obtain⟨L,l1,l2,l3⟩:=hc;have:=(l2 d).2 ⟨hd,h⟩;rw[List.length_eq_zero_iff.1 l3]at this;simp at this
  have ef:fx f n ch=eE n:=by
   unfold fx eE;refine List.map_congr_left fun d hd=>?_
   rw[if_neg (none d (List.mem_range.1 hd))]
  have et:cmpL t (fx f n ch) n=t:=by
   refine jV _ _ (by rw[(iz t _ n ht (kn f n ch hf)).1,ht.1]) fun i hi=>?_
   rw[(iz t _ n ht (kn f n ch hf)).1]at hi;rw[eI t _ n i hi,ef,rD n i hi]
  rw[et]at hS;have e1:=Cl.uniq hS hV
  have e2:P=V:=cm.same hP hV fun x hx=>by
   have:∀i,Reach [t,fx f n ch] n i x↔Reach [t] n i x:=fun i=>by
    constructor
    · intro h S hS
      refine h S fun p hp k hk=>?_
      rcases List.mem_cons.1 hp with rfl|hp
      ·exact hS p ay k hk
      ·rw[List.mem_singleton.1 hp,ef,rD n k hk,Int.toNat_natCast]
    ·exact fun h S hS=>h S fun p hp k hk=>hS p (by rw[List.mem_singleton.1 hp];simp) k hk
   exact⟨fun z i hi hr=>z i hi ((this i).2 hr),fun z i hi hr=>z i hi ((this i).1 hr)⟩
  omega
 |m+1,ch,hi,hc,P,S,V,hP,hS,hV=>by
  obtain⟨a,ha,ca⟩:∃a,a<n/\ch a=true:=by
   obtain⟨L,l1,l2,l3⟩:=hc;have:0<L.length:=ac;have:=(l2 L[0]).1 (List.getElem_mem this);exact⟨_,this⟩
  have fa:=hf.2 a ha;have fi:=E a ha;obtain⟨b,eb⟩:∃b:Nat,rd f (a:Int)=b:=⟨(rd f (a:Int)).toNat,ac⟩;have hb:b<n:=ac;have o:a≠b:=fun e=>fi.1 (by rw[eb,e])
  have e3:rd f (b:Int)=a:=by rw[<-eb];exact fi.2
  have cb:ch b=true:=by have:=hi a ha;rw[eb,Int.toNat_natCast]at this;rw[this,ca]
  let c:Nat->Bool:=fun d=>ch d&&!decide (d=a\/d=b)
  have q:kv f n c:=fun d hd=>by
   have fd:=hf.2 d hd;have gd:=E d hd;show(ch (rd f (d:Int)).toNat&&!decide ((rd f (d:Int)).toNat=a\/(rd f (d:Int)).toNat=b))=(ch d&&!decide (d=a\/d=b));rw[hi d hd]
   have:((rd f (d:Int)).toNat=a\/(rd f (d:Int)).toNat=b)↔(d=a\/d=b):=by
    have en:(((rd f (d:Int)).toNat:Nat):Int)=rd f (d:Int):=ac;constructor
    · rintro(h|h)
      ·rw[h]at en;have g2:=gd.2;rw[<-en,eb]at g2;right;omega
      ·rw[h]at en;have g2:=gd.2;rw[<-en,e3]at g2;left;omega
    · rintro(rfl|rfl)
      ·right;rw[eb,Int.toNat_natCast]
      ·left;rw[e3,Int.toNat_natCast]
   simp only[this]
  have c0:cm n (fun d=>c d=true) (2*m):=by
   have h1:=(hc.drop (Q:=fun d=>ch d=true/\d≠a) a ha ca fun x _=>Iff.rfl).2;have h2:=(h1.drop (Q:=fun d=>(ch d=true/\d≠a)/\d≠b) b hb ⟨cb,fun e=>o e.symm⟩ fun x _=>Iff.rfl).2;rw[show 2*(m+1)-1-1=2*m by omega]at h2;refine h2.congr fun x hx=>?_
   show _↔(ch x&&!decide (x=a\/x=b))=true;simp only[Bool.and_eq_true,Bool.not_eq_true',decide_eq_false_iff_not,not_or,and_assoc]
  obtain⟨P0,j,_⟩:=Cl.ex n (Reach [t,fx f n c] n);obtain⟨S0,s,_⟩:=Cl.ex n (Reach [cmpL t (fx f n c) n] n);have ih:=yT m c q c0 P0 S0 V j s hV
  obtain⟨q1,q2,q3,q4⟩:=Bz t f n ht hti hf E c ch q hi a b ha hb eb (by show(ch a&&!decide (a=a\/a=b))=false;simp) (fun d hd=>by
   show ch d=((ch d&&!decide (d=a\/d=b))||decide (d=a\/d=b));by_cases h:d=a\/d=b
   · rw[decide_eq_true h]
     rcases h with rfl|rfl
     ·simp[ca]
     ·simp[cb]
   ·rw[decide_eq_false h];simp) P0 S0 P S j s hP hS
  by_cases r:Reach [t,fx f n c] n a b
  · have:=q1 r
    by_cases r2:Reach [cmpL t (fx f n c) n] n a b
    ·have:=q4 r2;omega
    ·have:=q3 r2;omega
  · have:=q2 r
    have r2:¬Reach [cmpL t (fx f n c) n] n a b:=fun h=>r (xn t _ n (kn f n c hf) a b h)
    have:=q3 r2;omega
theorem AR:∀(m:Nat) (ch:Nat->Bool),kv f n ch->cm n (fun d=>ch d=false) (2*m)->∀S F,Cl n (Reach [cmpL t (fx f n ch) n] n) S->Cl n (Reach [cmpL t f n] n) F->F<=S+m
 |0,ch,hi,hc,S,F,hS,hF=>by
  have all:∀d,d<n->ch d=true:=fun d hd=>by
   cases h:ch d with
   |true=>rfl
   |false=>
    obtain⟨L,l1,l2,l3⟩:=hc;have:=(l2 d).2 ⟨hd,h⟩;rw[List.length_eq_zero_iff.1 l3]at this;simp at this
  have ef:fx f n ch=f:=jV _ _ (by rw[(kn f n ch hf).1,hf.1]) fun i hi=>by
   rw[(kn f n ch hf).1]at hi;rw[jN f n ch i hi,if_pos (all i hi)]
  rw[ef]at hS;have:=Cl.uniq hS hF;omega
 |m+1,ch,hi,hc,S,F,hS,hF=>by
  obtain⟨a,ha,ca⟩:∃a,a<n/\ch a=false:=by
   obtain⟨L,l1,l2,l3⟩:=hc;have:0<L.length:=ac;have:=(l2 L[0]).1 (List.getElem_mem this);exact⟨_,this⟩
  have fa:=hf.2 a ha;have fi:=E a ha;obtain⟨b,eb⟩:∃b:Nat,rd f (a:Int)=b:=⟨(rd f (a:Int)).toNat,ac⟩;have hb:b<n:=ac;have o:a≠b:=fun e=>fi.1 (by rw[eb,e])
  have e3:rd f (b:Int)=a:=by rw[<-eb];exact fi.2
  have cb:ch b=false:=by have:=hi a ha;rw[eb,Int.toNat_natCast]at this;rw[this,ca]
  let c:Nat->Bool:=fun d=>ch d||decide (d=a\/d=b)
  have q:kv f n c:=fun d hd=>by
   have fd:=hf.2 d hd;have gd:=E d hd;show(ch (rd f (d:Int)).toNat||decide ((rd f (d:Int)).toNat=a\/(rd f (d:Int)).toNat=b))=(ch d||decide (d=a\/d=b));rw[hi d hd]
   have:((rd f (d:Int)).toNat=a\/(rd f (d:Int)).toNat=b)↔(d=a\/d=b):=by
    have en:(((rd f (d:Int)).toNat:Nat):Int)=rd f (d:Int):=ac;constructor
    · rintro(h|h)
      ·rw[h]at en;have g2:=gd.2;rw[<-en,eb]at g2;right;omega
      ·rw[h]at en;have g2:=gd.2;rw[<-en,e3]at g2;left;omega
    · rintro(rfl|rfl)
      ·right;rw[eb,Int.toNat_natCast]
      ·left;rw[e3,Int.toNat_natCast]
   simp only[this]
  have c0:cm n (fun d=>c d=false) (2*m):=by
   have h1:=(hc.drop (Q:=fun d=>ch d=false/\d≠a) a ha ca fun x _=>Iff.rfl).2;have h2:=(h1.drop (Q:=fun d=>(ch d=false/\d≠a)/\d≠b) b hb ⟨cb,fun e=>o e.symm⟩ fun x _=>Iff.rfl).2;rw[show 2*(m+1)-1-1=2*m by omega]at h2;refine h2.congr fun x hx=>?_
   show _↔(ch x||decide (x=a\/x=b))=false;simp only[Bool.or_eq_false_iff,decide_eq_false_iff_not,not_or,and_assoc]
  obtain⟨P0,j,_⟩:=Cl.ex n (Reach [t,fx f n ch] n);obtain⟨P1,r,_⟩:=Cl.ex n (Reach [t,fx f n c] n);obtain⟨S1,k,_⟩:=Cl.ex n (Reach [cmpL t (fx f n c) n] n);have ih:=AR m c q c0 S1 F k hF;obtain⟨q1,q2,q3,q4⟩:=Bz t f n ht hti hf E ch c hi q a b ha hb eb ca (fun d hd=>rfl) P0 S P1 S1 j hS r k;by_cases r2:Reach [cmpL t (fx f n ch) n] n a b
  ·have:=q4 r2;omega
  ·have:=q3 r2;omega
theorem EF(h1:1<=n)(c:Nat->Bool)(hi:kv f n c)(J:∀i j:Nat,i<n->j<n->Reach [t,fx f n (fun d=>!c d)] n i j)
 (w:∀x,x<n->c x=true->∃y,y<n/\y≠x/\c y=true/\Reach [cmpL t f n] n x y)(V F:Nat)(hV:Cl n (Reach [t] n) V)(hF:Cl n (Reach [cmpL t f n] n) F)(hE:2*V+2*F=4+n):∀x,x<n->c x=false:=by
 classical
 intro x0 G;cases hbx:c x0 with
 |false=>rfl
 |true=>
 exfalso;have m:kv f n (fun d=>!c d):=fun d hd=>by show(!c _)=!c d;rw[hi d hd]
 obtain⟨B,hB,_⟩:=cm.ex (fun d=>c d=true) n;obtain⟨A,hA,_⟩:=cm.ex (fun d=>(!c d)=true) n
 have s:∀(p:Nat->Bool),kv f n p->∀k,cm n (fun d=>p d=true) k->k%2=0:=by
  intro p hp k
  induction k using Nat.strongRecOn generalizing p with
  |ind k ih=>
   intro hk;by_cases h0:k=0
   ·subst h0;rfl
   · obtain⟨a,ha,ca⟩:∃a,a<n/\p a=true:=by
      obtain⟨L,l1,l2,l3⟩:=hk;have:0<L.length:=ac;have:=(l2 L[0]).1 (List.getElem_mem this);exact⟨_,this⟩
     have fa:=hf.2 a ha;have fi:=E a ha;obtain⟨b,eb⟩:∃b:Nat,rd f (a:Int)=b:=⟨(rd f (a:Int)).toNat,ac⟩;have hb:b<n:=ac;have o:a≠b:=fun e=>fi.1 (by rw[eb,e])
     have e3:rd f (b:Int)=a:=by rw[<-eb];exact fi.2
     have cb:p b=true:=by have:=hp a ha;rw[eb,Int.toNat_natCast]at this;rw[this,ca]
     have h1:=hk.drop (Q:=fun d=>p d=true/\d≠a) a ha ca fun x _=>Iff.rfl
     have h2:=h1.2.drop (Q:=fun d=>(p d=true/\d≠a)/\d≠b) b hb ⟨cb,fun e=>o e.symm⟩ fun x _=>Iff.rfl
     have:=ih (k-1-1) ac (fun d=>p d&&!decide (d=a\/d=b)) (fun d hd=>by
      have fd:=hf.2 d hd;have gd:=E d hd;show(p (rd f (d:Int)).toNat&&!decide ((rd f (d:Int)).toNat=a\/(rd f (d:Int)).toNat=b))=(p d&&!decide (d=a\/d=b));rw[hp d hd]
      have:((rd f (d:Int)).toNat=a\/(rd f (d:Int)).toNat=b)↔(d=a\/d=b):=by
       have en:(((rd f (d:Int)).toNat:Nat):Int)=rd f (d:Int):=ac;constructor
       · rintro(h|h)
         ·rw[h]at en;have g2:=gd.2;rw[<-en,eb]at g2;right;omega
         ·rw[h]at en;have g2:=gd.2;rw[<-en,e3]at g2;left;omega
       · rintro(rfl|rfl)
         ·right;rw[eb,Int.toNat_natCast]
         ·left;rw[e3,Int.toNat_natCast]
      simp only[this]) (h2.2.congr fun x hx=>by
       show _↔(p x&&!decide (x=a\/x=b))=true;simp only[Bool.and_eq_true,Bool.not_eq_true',decide_eq_false_iff_not,not_or,and_assoc])
     omega
 have eB:=s c hi B hB;have eA:=s _ m A hA
 have tot:A+B=n:=by
  obtain⟨L,l1,l2,l3⟩:=hA;obtain⟨M,m1,m2,m3⟩:=hB
  have a1:=gG (L++M) (List.range n) (List.nodup_append.2 ⟨l1,m1,fun a ha b hb e=>by
   have x1:=((l2 a).1 ha).2;have x2:=((m2 b).1 hb).2;rw[e,x2]at x1;cases x1⟩) (fun x hx=>by
   rcases List.mem_append.1 hx with h|h
   ·exact List.mem_range.2 ((l2 x).1 h).1
   ·exact List.mem_range.2 ((m2 x).1 h).1)
  have a2:=gG (List.range n) (L++M) List.nodup_range (fun x hx=>by
   have hx:=List.mem_range.1 hx;refine List.mem_append.2 ?_;cases h:c x with
   |true=>exact .inr ((m2 x).2 ⟨hx,h⟩)
   |false=>exact .inl ((l2 x).2 ⟨hx,by show(!c x)=true;rw[h];rfl⟩))
  rw[List.length_append,List.length_range]at a1 a2;omega
 have hP:Cl n (Reach [t,fx f n (fun d=>!c d)] n) 1:=⟨[0],ay,fun x=>by
  rw[List.mem_singleton];constructor
  ·rintro rfl;exact⟨ac,fun i hi=>absurd hi ac⟩
  · rintro⟨h1,h2⟩
    by_cases e:x=0
    ·exact e
    ·exact absurd (J 0 x ac h1) (h2 0 ac),rfl⟩
 obtain⟨S,hS,_⟩:=Cl.ex n (Reach [cmpL t (fx f n (fun d=>!c d)) n] n);have g1:=yT t f n ht hti hf E (A/2) _ m (by rw[show 2*(A/2)=A by omega];exact hA) 1 S V hP hS hV
 have g2:=AR t f n ht hti hf E (B/2) _ m (by
  rw[show 2*(B/2)=B by omega];exact hB.congr fun x hx=>by cases c x<;>simp) S F hS hF
 let R:=Reach [cmpL t f n] n
 let R':=Reach [cmpL t (fx f n (fun d=>!c d)) n] n
 have pR:=iz t f n ht hf
 have iR:=jM t f n ht hti hf (fun i j h1 h2 e=>by
  have f1:=(E i h1).2;have f2:=(E j h2).2;rw[e]at f1;omega)
 have v:=iz t _ n ht (kn f n (fun d=>!c d) hf);have u:=jM t _ n ht hti (kn f n (fun d=>!c d) hf) (vZ f n _ hf E m)
 have r:∀x,x<n->c x=false->rd (cmpL t (fx f n (fun d=>!c d)) n) (x:Int)=rd (cmpL t f n) (x:Int):=fun x hx h=>by
  rw[eI t _ n x hx,eI t _ n x hx,jN f n _ x hx];simp[h]
 have iso:∀x,x<n->(∀z,z<n->R x z->c z=false)->∀z,(R' x z↔R x z):=by
  intro x hx hg z;constructor
  · intro h
    exact(h _ (jq _ n v u (fun z=>R x z) fun k hk hz=>by
     rw[r k hk (hg k hk hz)];exact hz.trans (Reach.step ay hk))).1 (Reach.refl _ _ _)
  · intro h
    exact((h _ (jq _ n pR iR (fun z=>R' x z/\R x z) fun k hk hz=>by
     have e:=r k hk (hg k hk hz.2);have s1:=Reach.step (ps:=[cmpL t f n]) (n:=n) (p:=cmpL t f n) ay hk;have s2:=Reach.step (ps:=[cmpL t (fx f n (fun d=>!c d)) n]) (n:=n) (p:=cmpL t (fx f n (fun d=>!c d)) n) ay hk;rw[e]at s2;exact⟨hz.1.trans s2,hz.2.trans s1⟩)).1 ⟨Reach.refl _ _ _,Reach.refl _ _ _⟩).1
 obtain⟨I,hI,_⟩:=cm.ex (fun x=>ko R x/\∀z,z<n->R x z->c z=false) n;obtain⟨N,hN,_⟩:=cm.ex (fun x=>ko R x/\∃z,z<n/\R x z/\c z=true) n
 have c1:I+1<=S:=by
  obtain⟨q,q1,q2,q3⟩:=pT R' (fun x=>Reach.refl _ _ x) (fun _ _ h=>h.symm) (fun _ _ _ h h'=>h.trans h') x0;have hd:=cm.drop (Q:=fun x=>ko R' x/\x≠q) hS q ac q2 fun x _=>Iff.rfl
  have:=hI.sub hd.2 fun x hx hh=>by
   have ix:=iso x hx hh.2;refine⟨fun i hi hr=>hh.1 i hi ?_,fun e=>?_⟩
   ·exact((ix i).1 hr.symm).symm
   · subst e
     have:=hh.2 x0 G ((ix x0).1 q3);rw[hbx]at this;cases this
  omega
 have c2:F<=I+N:=by
  obtain⟨L,l1,l2,l3⟩:=hI;obtain⟨M,m1,m2,m3⟩:=hN;obtain⟨K,k1,k2,k3⟩:=hF
  have:=gG K (L++M) k1 fun x hx=>by
   obtain⟨h1,h2⟩:=(k2 x).1 hx;refine List.mem_append.2 ?_;by_cases h:∃z,z<n/\R x z/\c z=true
   ·exact .inr ((m2 x).2 ⟨h1,h2,h⟩)
   · refine .inl ((l2 x).2 ⟨h1,h2,fun z hz hr=>?_⟩)
     cases hb:c z with
     |false=>rfl
     |true=>exact absurd ⟨z,hz,hr,hb⟩ h
  rw[List.length_append]at this;omega
 have c3:2*N<=B:=by
  obtain⟨M,m1,m2,m3⟩:=hN;obtain⟨L,l1,l2,l3⟩:=hB
  have ch:∀x,∃y z,x∈M->(y<n/\z<n/\y≠z/\c y=true/\c z=true/\R x y/\R x z):=fun x=>by
   by_cases hx:x∈M
   · obtain⟨h1,h2,y,y1,y2,y3⟩:=(m2 x).1 hx
     obtain⟨z,z1,z2,z3,z4⟩:=w y y1 y3;exact⟨y,z,fun _=>⟨y1,z1,fun e=>z2 e.symm,y3,z3,y2,y2.trans z4⟩⟩
   ·exact⟨0,0,fun h=>absurd h hx⟩
  let g1:=fun x=>Classical.choose (ch x)
  let g2:=fun x=>Classical.choose (Classical.choose_spec (ch x))
  have gs:∀x,x∈M->(g1 x<n/\g2 x<n/\g1 x≠g2 x/\c (g1 x)=true/\c (g2 x)=true/\R x (g1 x)/\R x (g2 x)):=fun x=>Classical.choose_spec (Classical.choose_spec (ch x))
  have un:∀x y,x∈M->y∈M->R x y->x=y:=fun x y hx hy h=>qC R (fun _ _ h=>h.symm) x y ((m2 x).1 hx).2.1 ((m2 y).1 hy).2.1 h
  have nm:∀(g:Nat->Nat),(∀x,x∈M->R x (g x))->(M.map g).Nodup:=by
   intro g hg;rw[List.Nodup,List.pairwise_map];refine List.Pairwise.imp_of_mem ?_ m1;intro a b ha hb o e;have r1:=hg a ha;have r2:=hg b hb;rw[e]at r1;exact o (un a b ha hb (r1.trans r2.symm))
  have:=gG (M.map g1++M.map g2) L (List.nodup_append.2 ⟨nm g1 fun x hx=>(gs x hx).2.2.2.2.2.1,nm g2 fun x hx=>(gs x hx).2.2.2.2.2.2,fun a ha b hb e=>by
   obtain⟨x,hx,rfl⟩:=List.mem_map.1 ha;obtain⟨y,hy,rfl⟩:=List.mem_map.1 hb;have r1:=(gs x hx).2.2.2.2.2.1;have r2:=(gs y hy).2.2.2.2.2.2;rw[e]at r1;have:=un x y hx hy (r1.trans r2.symm);subst this;exact(gs x hx).2.2.1 e⟩) (fun z hz=>by
   rcases List.mem_append.1 hz with h|h
   · obtain⟨x,hx,rfl⟩:=List.mem_map.1 h
     exact(l2 _).2 ⟨(gs x hx).1,(gs x hx).2.2.2.1⟩
   · obtain⟨x,hx,rfl⟩:=List.mem_map.1 h
     exact(l2 _).2 ⟨(gs x hx).2.1,(gs x hx).2.2.2.2.1⟩)
  rw[List.length_append,List.length_map,List.length_map]at this;omega
 omega
end
def cw(p:List Int):Nat->List Bool->List Int->Int->List Bool×List Int
 |0,s,c,a=>(s,c)
 |f+1,s,c,a=>if cP false s a=true then(s,c)else cw p f (s.set a.toNat true) (c++[a]) (rd p a)
def fresh(s:List Bool):Nat:=s.countP (fun b=>!b)
def aE(p:List Int)(n:Nat):Nat->List Bool×List (List Int)
 |0=>(List.replicate n false,[])
 |i+1=>
  let q:=cw p (n+1) (aE p n i).1 [] i
  (q.1,if q.2=[]then(aE p n i).2 else(aE p n i).2++[q.2])
theorem nl:∀(s:List Bool) (i:Nat),i<s.length->s.getD i false=false->fresh (s.set i true)+1=fresh s
 |b::s,0,_,h=>by
  simp only[List.getD_cons_zero]at h;subst h;simp[fresh]
 |b::s,i+1,hi,h=>by
  simp only[List.getD_cons_succ]at h;have ih:=nl s i (by simpa using hi) h;simp only[fresh,List.set_cons_succ,List.countP_cons]at ih ⊢;omega
theorem iH(s:List Bool)(a:Int)(h0:0<=a):cP false s a=s.getD a.toNat false:=by
 unfold cP;rfl
theorem Ap(p:List Int):∀(f:Nat) (s:List Bool) (c:List Int) (a:Int),(cw p f s c a).1.length=s.length
 |0,s,c,a=>rfl
 |f+1,s,c,a=>by
  simp only[cw];split
  ·rfl
  ·rw[Ap p f];simp
theorem zl(p:List Int)(n:Nat)(hn:n<=1048576)(hp:inR n p)(L:List (List Int))(hL:L.length<=1048576)(i:Int)(r:List (List Int)):∀(f:Nat) (s:List Bool) (c:List Int) (a:Int),s.length=n->0<=a->a<n->fresh s<f->c.length+fresh s<=1048577->
 Ev (fun k=>dl.l0 k p (L++[(cw p f s c a).2]) (cw p f s c a).1 (wrap64 (i+1))) r->Ev (fun k=>dl.l1 k p L s i c a) r
 |0,s,c,a,hs,h0,h1,hf,hc,h=>absurd hf (Nat.not_lt_zero _)
 |f+1,s,c,a,hs,h0,h1,hf,hc,h=>by
  refine Ev.s ?_;simp only[cw]at h;have o:L.length<5864062014805:=ac;have j:c.length<17592186044416:=ac;simp only[dl.l1,h0,hs,h1,hp.1,o,j,if_true];by_cases e:cP false s a=true
  · simp only[e,if_true]at h ⊢
    exact h
  · simp only[e,if_false]at h ⊢
    have h3:s.getD a.toNat false=false:=by rw[<-iH s a h0];simpa using e
    have h4:=nl s a.toNat ac h3;have h5:=hp.2 a.toNat ac;rw[show((a.toNat:Nat):Int)=a by omega]at h5;exact zl p n hn hp L hL i r f _ _ _ (by simpa using hs) h5.1 h5.2 ac (by simp only[List.length_append,List.length_cons,List.length_nil];omega) h
theorem xj(p:List Int)(n:Nat)(hn:n<=1048576)(hp:inR n p)(L:List (List Int))(hL:L.length<=1048576)(m i:Int)(r:List (List Int)):∀(f:Nat) (s:List Bool) (c:List Int) (a:Int),s.length=n->0<=a->a<n->fresh s<f->c.length+fresh s<=1048577->
 Ev (fun k=>dt.l0 k p (if(cw p f s c a).2=[]then L else L++[(cw p f s c a).2]) (cw p f s c a).1 m (wrap64 (i+1))) r->Ev (fun k=>dt.l1 k p L s c a m i) r
 |0,s,c,a,hs,h0,h1,hf,hc,h=>absurd hf (Nat.not_lt_zero _)
 |f+1,s,c,a,hs,h0,h1,hf,hc,h=>by
  refine Ev.s ?_;simp only[cw]at h;have o:L.length<5864062014805:=ac;have j:c.length<17592186044416:=ac;simp only[dt.l1,h0,hs,h1,hp.1,o,j,if_true];by_cases e:cP false s a=true
  · simp only[e,if_true]at h ⊢
    cases c with
    |nil=>simpa using h
    |cons b c=>simpa using h
  · simp only[e,if_false]at h ⊢
    have h3:s.getD a.toNat false=false:=by rw[<-iH s a h0];simpa using e
    have h4:=nl s a.toNat ac h3;have h5:=hp.2 a.toNat ac;rw[show((a.toNat:Nat):Int)=a by omega]at h5;exact xj p n hn hp L hL m i r f _ _ _ (by simpa using hs) h5.1 h5.2 ac (by simp only[List.length_append,List.length_cons,List.length_nil];omega) h
theorem nY(s:List Bool):fresh s<=s.length:=List.countP_le_length
theorem kL(p:List Int)(n:Nat):∀i,(aE p n i).1.length=n
 |0=>by simp[aE]
 |i+1=>by simp only[aE];rw[Ap,kL p n i]
theorem nv(p:List Int)(n:Nat):∀i,(aE p n i).2.length<=i
 |0=>by simp[aE]
 |i+1=>by
  have ih:=nv p n i;simp only[aE];split
  ·omega
  ·simp only[List.length_append,List.length_cons,List.length_nil];omega
theorem tM(p:List Int)(f:Nat)(s:List Bool)(c:List Int)(a:Int)(h:cP false s a=true):cw p f s c a=(s,c):=by
 cases f with
 |zero=>rfl
 |succ f=>simp only[cw,h,if_true]
theorem Av(p:List Int):∀(f:Nat) (s:List Bool) (c:List Int) (a:Int),c.length<=(cw p f s c a).2.length
 |0,s,c,a=>Nat.le_refl _
 |f+1,s,c,a=>by
  simp only[cw];split
  ·exact Nat.le_refl _
  · have:=Av p f (s.set a.toNat true) (c++[a]) (rd p a)
    simp only[List.length_append,List.length_cons,List.length_nil]at this;omega
theorem uf(p:List Int)(f:Nat)(s:List Bool)(a:Int)(h:¬cP false s a=true):(cw p (f+1) s [] a).2≠[]:=by
 simp only[cw,h,Bool.false_eq_true,if_false];intro e;have:=Av p f (s.set a.toNat true) ([]++[a]) (rd p a);rw[e]at this;simp at this
theorem CH(p:List Int)(n:Nat)(hn:n<=1048575)(hp:inR n p):∀(d i:Nat),n-i=d->i<=n->Ev (fun k=>dl.l0 k p (aE p n i).2 (aE p n i).1 i) (aE p n n).2
 |0,i,hd,hi=>by
  have:i=n:=ac;subst this;refine Ev.s ?_;simp only[dl.l0,hp.1,show ¬(i:Int)<(i:Int) by omega,if_false];exact Ev.const rfl
 |d+1,i,hd,hi=>by
  have ih:=CH p n hn hp d (i+1) ac ac;have hl:=kL p n i;have hm:=nv p n i;have hf:=nY (aE p n i).1;have h1:(i:Int)<(n:Int):=ac;have h0:(0:Int)<=(i:Int):=ac;refine Ev.s ?_;simp only[dl.l0,hp.1,hl,h1,h0,if_true];by_cases e:cP false (aE p n i).1 (i:Int)=true
  · simp only[e,if_true]
    rw[cM ac];simp only[aE,tM p (n+1) (aE p n i).1 [] i e,if_true]at ih;exact ih
  · simp only[e,if_false]
    refine zl p n ac hp _ ac i _ (n+1) _ _ _ hl h0 h1 ac (by simp only[List.length_nil];omega) ?_;rw[cM ac];simp only[aE,uf p n (aE p n i).1 i e,if_false]at ih;exact ih
theorem CP(p:List Int)(n:Nat)(hn:n<=1048575)(hp:inR n p):∀(d i:Nat),n-i=d->i<=n->Ev (fun k=>dt.l0 k p (aE p n i).2 (aE p n i).1 n i) (aE p n n).2
 |0,i,hd,hi=>by
  have:i=n:=ac;subst this;refine Ev.s ?_;simp only[dt.l0,show ¬(i:Int)<(i:Int) by omega,if_false];exact Ev.const rfl
 |d+1,i,hd,hi=>by
  have ih:=CP p n hn hp d (i+1) ac ac;have hl:=kL p n i;have hm:=nv p n i;have hf:=nY (aE p n i).1;have h1:(i:Int)<(n:Int):=ac;have h0:(0:Int)<=(i:Int):=ac;refine Ev.s ?_;simp only[dt.l0,h1,if_true];refine xj p n ac hp _ ac n i _ (n+1) _ _ _ hl h0 h1 ac (by simp only[List.length_nil];omega) ?_;rw[cM ac];simp only[aE]at ih;exact ih
theorem tz(p:List Int)(n:Nat)(hn:n<=1048575)(hp:inR n p):Ev (fun k=>dl.f k p) (aE p n n).2:=by
 unfold dl.f;have h1:n<=281474976710656:=ac;have h2:(0:Int)<=(n:Int):=ac;simp only[hp.1,Int.toNat_natCast,h1,h2,if_true];exact CH p n hn hp n 0 ac ac
theorem oR(p:List Int)(n:Nat)(hn:n<=1048575)(hp:inR n p):Ev (fun k=>dt.f k p) (aE p n n).2:=by
 unfold dt.f;have h1:n<=281474976710656:=ac;have h2:(0:Int)<=(n:Int):=ac;simp only[hp.1,Int.toNat_natCast,h1,h2,if_true];exact CP p n hn hp n 0 ac ac
theorem o9(s:List Bool)(i j:Nat)(b:Bool)(hi:i<s.length):(s.set i b).getD j false=if i=j then b else s.getD j false:=by
 rw[List.getD_eq_getElem?_getD,List.getElem?_set];by_cases e:i=j
 · subst e
   simp[hi]
 ·simp[e,List.getD_eq_getElem?_getD]
theorem uU(p:List Int)(n:Nat)(hp:inR n p)(a0:Nat)(j:a0<n)(s0:Nat->Prop):∀(m:Nat) (s:List Bool) (c:List Int) (a:Nat),s.length=n->a<n->fresh s<m->
 (∀x,x<n->s.getD x false=true->s.getD (rd p x).toNat false=true\/(rd p x).toNat=a)->Reach [p] n a0 a->(∀x,x<n->s.getD x false=true->s0 x\/Reach [p] n a0 x)->(∀x,s0 x->s.getD x false=true)->(s.getD a0 false=true\/a=a0)->(∀x∈c,0<=x/\x<n/\Reach [p] n a0 x.toNat)->(a0≠a->(a0:Int)∈c)->(∀x,x<n->s.getD x false=true->s0 x\/(x:Int)∈c)->
 (∀x,x<n->(cw p m s c a).1.getD x false=true->(cw p m s c a).1.getD (rd p x).toNat false=true)/\(∀x,x<n->(cw p m s c a).1.getD x false=true->s0 x\/Reach [p] n a0 x)/\(∀x,s0 x->(cw p m s c a).1.getD x false=true)/\(cw p m s c a).1.getD a0 false=true/\(∀x∈(cw p m s c a).2,0<=x/\x<n/\Reach [p] n a0 x.toNat)/\(∀x,x<n->(cw p m s c a).1.getD x false=true->s0 x\/(x:Int)∈(cw p m s c a).2)
 |0,s,c,a,hs,ha,hm,h1,h2,h3,h4,h5,h6,h7,h8=>absurd hm (Nat.not_lt_zero _)
 |m+1,s,c,a,hs,ha,hm,h1,h2,h3,h4,h5,h6,h7,h8=>by
  simp only[cw];rw[iH s a ac,Int.toNat_natCast];by_cases e:s.getD a false=true
  · rw[if_pos e]
    refine⟨fun x hx b=>(h1 x hx b).elim id (fun z=>by rw[z];exact e),h3,h4,h5.elim id (fun z=>by rw[<-z];exact e),h6,h8⟩
  · rw[if_neg e]
    have pr:=hp.2 a ha;have e0:s.getD a false=false:=by simpa using e
    have fr:=nl s a ac e0;have back:(((rd p a).toNat:Nat):Int)=rd p a:=ac;have st:=Reach.step (ps:=[p]) (n:=n) (p:=p) ay ha
    have ih:=uU p n hp a0 j s0 m (s.set a true) (c++[(a:Int)]) (rd p a).toNat (by simpa using hs) ac ac
     (fun x hx b=>by
       rw[o9 _ _ _ _ ac]at b ⊢;by_cases z:a=x
       ·subst z;exact .inr rfl
       · rw[if_neg z]at b
         by_cases y:a=(rd p x).toNat
         ·rw[if_pos y];exact .inl rfl
         · rw[if_neg y]
           exact .inl ((h1 x hx b).elim id (fun q=>absurd q.symm y)))
     (h2.trans st)
     (fun x hx b=>by
       rw[o9 _ _ _ _ ac]at b;by_cases z:a=x
       ·subst z;exact .inr h2
       · rw[if_neg z]at b
         exact h3 x hx b)
     (fun x hx=>by
       rw[o9 _ _ _ _ ac];split
       ·rfl
       ·exact h4 x hx)
     (.inl (by
       rw[o9 _ _ _ _ ac];by_cases z:a=a0
       ·rw[if_pos z]
       · rw[if_neg z]
         exact h5.elim id (fun q=>absurd q z)))
     (fun x hx=>by
       rw[List.mem_append,List.mem_singleton]at hx;rcases hx with hx|rfl
       ·exact h6 x hx
       ·exact⟨ac,ac,by rw[Int.toNat_natCast];exact h2⟩)
     (fun _=>by
       rw[List.mem_append,List.mem_singleton];by_cases z:a0=a
       ·right;rw[z]
       ·exact .inl (h7 z))
     (fun x hx b=>by
       rw[List.mem_append,List.mem_singleton];rw[o9 _ _ _ _ ac]at b;by_cases z:a=x
       ·subst z;exact .inr (.inr rfl)
       · rw[if_neg z]at b
         exact(h8 x hx b).imp id .inl)
    rw[back]at ih;exact ih
theorem mA(p:List Int)(n:Nat)(hp:inR n p)(hi:bL n p):∀i,i<=n->∀x,x<n->((aE p n i).1.getD x false=true↔∃j,j<i/\Reach [p] n j x)
 |0,_,x,hx=>by
  constructor
  · intro h
    simp[aE,List.getD_eq_getElem?_getD,List.getElem?_replicate,hx]at h
  ·rintro⟨j,hj,_⟩;omega
 |i+1,hi',x,hx=>by
  have ih:=mA p n hp hi i ac;have l1:=kL p n i;simp only[aE];by_cases e:(aE p n i).1.getD i false=true
  · rw[tM p (n+1) _ _ _ (by rw[iH _ _ ac,Int.toNat_natCast];exact e)]
    rw[ih x hx];obtain⟨q,q1,q2⟩:=(ih i ac).1 e;constructor
    ·rintro⟨j,hj,h⟩;exact⟨j,ac,h⟩
    · rintro⟨j,hj,h⟩
      by_cases z:j=i
      ·subst z;exact⟨q,q1,q2.trans h⟩
      ·exact⟨j,ac,h⟩
  · obtain⟨w1,w2,w3,w4,w5,w6⟩:=uU p n hp i ac (fun x=>x<n/\(aE p n i).1.getD x false=true) (n+1) (aE p n i).1 [] i l1 ac (by have:=nY (aE p n i).1;omega)
     (fun y hy c=>.inl (by
       have pr:=hp.2 y hy;obtain⟨j,hj,h⟩:=(ih y hy).1 c;exact(ih _ ac).2 ⟨j,hj,h.trans (Reach.step ay hy)⟩))
     (Reach.refl _ _ _) (fun y hy c=>.inl ⟨hy,c⟩) (fun y hy=>hy.2) (.inr rfl) ay (fun z=>absurd rfl z) (fun y hy c=>.inl ⟨hy,c⟩)
    constructor
    · intro h
      rcases w2 x hx h with⟨_,h⟩|h
      · obtain⟨j,hj,h⟩:=(ih x hx).1 h
        exact⟨j,ac,h⟩
      ·exact⟨i,ac,h⟩
    · rintro⟨j,hj,h⟩
      by_cases z:j=i
      · subst z
        have hc:=jq p n hp hi (fun y=>(cw p (n+1) (aE p n j).1 [] j).1.getD y false=true) w1;exact(h _ hc).1 w4
      ·exact w3 x ⟨hx,(ih x hx).2 ⟨j,ac,h⟩⟩
theorem cm.none{P:Nat->Prop}{n:Nat}(h:∀x,x<n->¬P x):cm n P 0:=⟨[],List.nodup_nil,fun x=>⟨fun z=>by simp at z,fun z=>absurd z.2 (h x z.1)⟩,rfl⟩
theorem oK(p:List Int)(n:Nat)(hp:inR n p)(hi:bL n p):∀i,i<=n->∃reps:List Nat,reps.length=(aE p n i).2.length/\reps.Nodup/\(∀j,j∈reps↔j<i/\ko (Reach [p] n) j)/\∀(q:Nat) (h:q<reps.length) (x:Nat),x<n->((x:Int)∈ak (aE p n i).2 q↔Reach [p] n reps[q] x)
 |0,_=>⟨[],by simp[aE],List.nodup_nil,ay,fun q h=>by simp at h⟩
 |i+1,hi'=>by
  obtain⟨reps,r1,r2,r3,r4⟩:=oK p n hp hi i ac;have k:=mA p n hp hi i ac i ac;have l1:=kL p n i;simp only[aE];by_cases e:(aE p n i).1.getD i false=true
  · rw[tM p (n+1) _ _ _ (by rw[iH _ _ ac,Int.toNat_natCast];exact e)]
    rw[if_pos rfl];obtain⟨j,hj,h⟩:=k.1 e;refine⟨reps,r1,r2,fun q=>?_,r4⟩;rw[r3];constructor
    ·rintro⟨a,b⟩;exact⟨ac,b⟩
    · rintro⟨a,b⟩
      by_cases z:q=i
      ·subst z;exact absurd h (b j hj)
      ·exact⟨ac,b⟩
  · have e':¬cP false (aE p n i).1 (i:Int)=true:=by rw[iH _ _ ac,Int.toNat_natCast];exact e
    have hl:ko (Reach [p] n) i:=fun j hj h=>e (k.2 ⟨j,hj,h⟩)
    obtain⟨w1,w2,w3,w4,w5,w6⟩:=uU p n hp i ac (fun x=>x<n/\(aE p n i).1.getD x false=true) (n+1) (aE p n i).1 [] i l1 ac (by have:=nY (aE p n i).1;omega)
     (fun y hy c=>.inl (by
       have pr:=hp.2 y hy;obtain⟨j,hj,h⟩:=(mA p n hp hi i ac y hy).1 c;exact(mA p n hp hi i ac _ ac).2 ⟨j,hj,h.trans (Reach.step ay hy)⟩))
     (Reach.refl _ _ _) (fun y hy c=>.inl ⟨hy,c⟩) (fun y hy=>hy.2) (.inr rfl) ay (fun z=>absurd rfl z) (fun y hy c=>.inl ⟨hy,c⟩)
    have hc:=jq p n hp hi (fun y=>(cw p (n+1) (aE p n i).1 [] i).1.getD y false=true) w1;rw[if_neg (uf p n _ i e')];refine⟨reps++[i],by rw[List.length_append,List.length_append,r1];rfl,List.nodup_append.2 ⟨r2,ay,fun a ha b hb z=>?_⟩,fun q=>?_,fun q hq x hx=>?_⟩
    · have:=((r3 a).1 ha).1
      rw[List.mem_singleton]at hb;omega
    · rw[List.mem_append,List.mem_singleton,r3]
      constructor
      · rintro(⟨a,b⟩|rfl)
        ·exact⟨ac,b⟩
        ·exact⟨ac,hl⟩
      · rintro⟨a,b⟩
        by_cases z:q=i
        ·exact .inr z
        ·exact .inl ⟨ac,b⟩
    · by_cases hq':q<reps.length
      · rw[lI _ q (by simp;omega),List.getElem_append_left ac,List.getElem_append_left hq',<-lI _ q ac]
        exact r4 q hq' x hx
      · have hq2:q=reps.length:=by simp at hq;omega
        subst hq2;rw[lI _ _ (by simp;omega),List.getElem_append_right ac,List.getElem_append_right (Nat.le_refl _)];simp only[r1,Nat.sub_self,List.getElem_cons_zero];constructor
        · intro hm
          have:=(w5 x hm).2.2
          rwa [Int.toNat_natCast]at this
        · intro h
          have z:=(h _ hc).1 w4;rcases w6 x hx z with⟨_,z⟩|z
          · obtain⟨j,hj,hr⟩:=(mA p n hp hi i ac x hx).1 z
            exact absurd (hr.trans h.symm) (hl j hj)
          ·exact z
theorem rN(p:List Int)(n:Nat)(hp:inR n p)(hi:bL n p):Cl n (Reach [p] n) (aE p n n).2.length:=by
 obtain⟨reps,r1,r2,r3,_⟩:=oK p n hp hi n (Nat.le_refl _);exact⟨reps,r2,r3,r1⟩
theorem zK(p:List Int)(n:Nat)(hp:inR n p):∀(f:Nat) (s:List Bool) (c:List Int) (a:Int),s.length=n->0<=a->a<n->fresh s<f->
 ∃m,(cw p f s c a).2=c++(List.range m).map (fun k=>itr p k a)/\(∀k,k<m->cP false s (itr p k a)=false)/\(∀i j,i<j->j<m->itr p i a≠itr p j a)/\(cP false s (itr p m a)=true\/∃k,k<m/\itr p m a=itr p k a)
 |0,s,c,a,hs,h0,h1,hf=>absurd hf (Nat.not_lt_zero _)
 |f+1,s,c,a,hs,h0,h1,hf=>by
  simp only[cw];by_cases e:cP false s a=true
  · rw[if_pos e]
    exact⟨0,ay,fun k hk=>absurd hk ac,fun i j _ hj=>absurd hj ac,.inl e⟩
  · rw[if_neg e]
    have e0:cP false s a=false:=by simpa using e
    have e1:s.getD a.toNat false=false:=by rw[<-iH s a h0];exact e0
    have fr:=nl s a.toNat ac e1;have pr:=hp.2 a.toNat ac;have ea:((a.toNat:Nat):Int)=a:=ac;rw[ea]at pr;obtain⟨m,m1,m2,m3,m4⟩:=zK p n hp f (s.set a.toNat true) (c++[a]) (rd p a) (by simpa using hs) pr.1 pr.2 ac
    have b:∀k,cP false (s.set a.toNat true) (itr p k (rd p a))=if a=itr p k (rd p a)then true else cP false s (itr p k (rd p a)):=fun k=>by
     have r:=gH p n hp k _ pr;rw[iH _ _ r.1,iH _ _ r.1,o9 _ _ _ _ ac];by_cases q:a=itr p k (rd p a)
     ·rw[if_pos q,if_pos ac]
     ·rw[if_neg q,if_neg ac]
    refine⟨m+1,?_,fun k hk=>?_,fun i j hij hj=>?_,?_⟩
    · rw[m1,List.range_succ_eq_map,List.map_cons,List.map_map,List.append_assoc]
      rfl
    · cases k with
      |zero=>exact e0
      |succ k=>
       have:=m2 k ac;rw[b k]at this;show cP false s (itr p k (rd p a))=false;by_cases q:a=itr p k (rd p a)
       ·rw[if_pos q]at this;cases this
       ·rw[if_neg q]at this;exact this
    · obtain⟨j,rfl⟩:∃j',j=j'+1:=⟨j-1,ac⟩
      cases i with
      |zero=>
       have:=m2 j ac;rw[b j]at this;intro q;rw[if_pos (show a=itr p j (rd p a)from q)]at this;cases this
      |succ i=>exact m3 i j ac ac
    · rcases m4 with h|⟨k,hk,h⟩
      · rw[b m]at h
        by_cases q:a=itr p m (rd p a)
        ·exact .inr ⟨0,ac,q.symm⟩
        · rw[if_neg q]at h
          exact .inl h
      ·exact .inr ⟨k+1,ac,h⟩
theorem tc(p:List Int)(n:Nat)(hp:inR n p)(hi:bL n p):∀i,i<=n->∀l∈(aE p n i).2,∃a:Nat,a<n/\l=(List.range l.length).map (fun k=>itr p k (a:Int))/\itr p l.length (a:Int)=a/\∀i j,i<j->j<l.length->itr p i (a:Int)≠itr p j (a:Int)
 |0,_,l,hl=>by simp[aE]at hl
 |i+1,h,l,hl=>by
  have ih:=tc p n hp hi i ac;have len:=kL p n i;have fl:=nY (aE p n i).1;obtain⟨m,m1,m2,m3,m4⟩:=zK p n hp (n+1) (aE p n i).1 [] (i:Int) len ac ac ac;rw[List.nil_append]at m1;simp only[aE]at hl;by_cases e:(cw p (n+1) (aE p n i).1 [] (i:Int)).2=[]
  · rw[if_pos e]at hl
    exact ih l hl
  · rw[if_neg e]at hl
    rcases List.mem_append.1 hl with hl|hl
    ·exact ih l hl
    · have el:=List.mem_singleton.1 hl
      have b:l.length=m:=by rw[el,m1];simp
      have mp:0<m:=by
       rcases Nat.eq_zero_or_pos m with z|z
       ·exact absurd (by rw[m1,z];rfl) e
       ·exact z
      refine⟨i,ac,by rw[b,<-m1,<-el],?_,fun x y hxy hy=>m3 x y hxy ac⟩;rw[b];have ii:(0:Int)<=(i:Int)/\(i:Int)<n:=ac;rcases m4 with h4|⟨k,hk,h4⟩
      · exfalso
        have r:=gH p n hp m (i:Int) ii;rw[iH _ _ r.1]at h4;obtain⟨j,j1,j2⟩:=(mA p n hp hi i ac _ ac).1 h4;have z:=nQ [p] p n hp ay m (i:Int) ii;rw[Int.toNat_natCast]at z;have:=(mA p n hp hi i ac i ac).2 ⟨j,j1,j2.trans z.symm⟩;have q:=m2 0 mp;rw[show itr p 0 (i:Int)=i from rfl,iH _ _ ac,Int.toNat_natCast,this]at q;cases q
      · rw[show m=(m-k)+k by omega,iZ]at h4
        have h5:=qK p n hp hi k _ _ (gH p n hp (m-k) (i:Int) ii) ii h4;by_cases k0:k=0
        ·subst k0;exact h5
        ·exact absurd h5.symm (m3 0 (m-k) ac ac)
theorem Be(p:List Int)(n:Nat)(hp:inR n p)(hi:bL n p)(x:Nat)(hx:x<n):∃l∈(aE p n n).2,(x:Int)∈l:=by
 obtain⟨reps,r1,r2,r3,r4⟩:=oK p n hp hi n (Nat.le_refl _);obtain⟨y,y1,y2,y3⟩:=pT (Reach [p] n) (fun x=>Reach.refl _ _ x) (fun _ _ h=>h.symm) (fun _ _ _ h h'=>h.trans h') x;obtain⟨q,hq,e⟩:=List.mem_iff_getElem.1 ((r3 y).2 ⟨ac,y2⟩);have:=(r4 q hq x hx).2 (by rw[e];exact y3);have hq':q<(aE p n n).2.length:=ac
 have el:ak (aE p n n).2 (q:Int)=(aE p n n).2[q]:=by
  unfold ak;rw[Int.toNat_natCast];simp[List.getD,hq']
 rw[el]at this;exact⟨_,List.getElem_mem hq',this⟩
theorem ql(p:List Int)(n:Nat)(hp:inR n p)(hi:bL n p)(h4:∀l∈(aE p n n).2,l.length=4):
 (∀l∈(aE p n n).2,∃a:Nat,a<n/\l=[(a:Int),rd p a,rd p (rd p a),rd p (rd p (rd p a))])/\
 ∀x:Nat,x<n->rd p (rd p (rd p (rd p (x:Int))))=x/\rd p (x:Int)≠x/\rd p (rd p (x:Int))≠x/\rd p (rd p (rd p (x:Int)))≠x:=by
 constructor
 · intro l hl
   obtain⟨a,a1,a2,_,_⟩:=tc p n hp hi n (Nat.le_refl _) l hl;refine⟨a,a1,?_⟩;rw[a2,h4 l hl];rfl
 · intro x hx
   obtain⟨l,hl,o⟩:=Be p n hp hi x hx;obtain⟨a,a1,a2,a3,a4⟩:=tc p n hp hi n (Nat.le_refl _) l hl;rw[a2]at o;obtain⟨k,hk,ek⟩:=List.mem_map.1 o;have hk:=List.mem_range.1 hk;rw[h4 l hl]at a3 hk;have aa:(0:Int)<=(a:Int)/\(a:Int)<n:=ac;have b:∀m,itr p m (x:Int)=itr p k (itr p m (a:Int)):=fun m=>by rw[<-ek,<-iZ,<-iZ,Nat.add_comm]
   have ne:∀m,0<m->m<4->itr p m (x:Int)≠x:=fun m m0 m1 e=>by
    rw[b m,<-ek]at e;exact a4 0 m m0 (by rw[h4 l hl];exact m1) (qK p n hp hi k _ _ (gH p n hp m _ aa) aa e).symm
   refine⟨?_,ne 1 ac ac,ne 2 ac ac,ne 3 ac ac⟩;have:=b 4;rw[a3,ek]at this;exact this
def dE(t f:List Int)(n:Nat):Prop:=n<=12/\1<=n/\inR n t/\bL n t/\inR n f/\(∀i:Nat,i<n->eN f i)/\∀i j:Nat,i<n->j<n->Reach [t,f] n i j
def dG(t f:List Int)(n a:Nat)(g:List Int):Prop:=(g.length=n)/\(∀x:Nat,x<n->0<=rd g x/\rd g x<n)/\(rd g a=0)/\(∀x:Nat,x<n->rd g (rd t x)=rd g x)/\(∀x:Nat,x<n->rd g x<=rd g (rd f x)+1)/\(∀x:Nat,x<n->rd g x=0->Reach [t] n x a)/\(∀x:Nat,x<n->0<rd g x->∃y:Nat,y<n/\Reach [t] n y x/\rd g (rd f y)+1=rd g x)
theorem dG.len{t f:List Int}{n a:Nat}{g:List Int}(h:dG t f n a g):g.length=n:=h.1
theorem dG.rng{t f:List Int}{n a:Nat}{g:List Int}(h:dG t f n a g):∀x:Nat,x<n->0<=rd g x/\rd g x<n:=h.2.1
theorem dG.start{t f:List Int}{n a:Nat}{g:List Int}(h:dG t f n a g):rd g a=0:=h.2.2.1
theorem dG.turn{t f:List Int}{n a:Nat}{g:List Int}(h:dG t f n a g):∀x:Nat,x<n->rd g (rd t x)=rd g x:=h.2.2.2.1
theorem dG.flip{t f:List Int}{n a:Nat}{g:List Int}(h:dG t f n a g):∀x:Nat,x<n->rd g x<=rd g (rd f x)+1:=h.2.2.2.2.1
theorem dG.zero{t f:List Int}{n a:Nat}{g:List Int}(h:dG t f n a g):∀x:Nat,x<n->rd g x=0->Reach [t] n x a:=h.2.2.2.2.2.1
theorem dG.back{t f:List Int}{n a:Nat}{g:List Int}(h:dG t f n a g):∀x:Nat,x<n->0<rd g x->∃y:Nat,y<n/\Reach [t] n y x/\rd g (rd f y)+1=rd g x:=h.2.2.2.2.2.2
theorem lF{t:List Int}{n:Nat}(ht:inR n t)(hi:bL n t)(g:List Int)(h:∀x:Nat,x<n->rd g (rd t x)=rd g x){x y:Nat}(hr:Reach [t] n x y):rd g x=rd g y:=by
 have hc:kW [t] n (fun z=>rd g z=rd g y):=jq t n ht hi _ fun k hk e=>by
  have h1:=ht.2 k hk;have h2:=h k hk;rw[show((rd t k).toNat:Int)=rd t k by omega];exact h2.trans e
 exact(hr _ hc).2 rfl
theorem fN(l:List Int)(i j:Nat)(v:Int)(h:i<l.length):rd (l.set i v) j=if j=i then v else rd l j:=by
 by_cases e:j=i
 ·subst e;rw[if_pos rfl,iE _ _ _ h]
 ·rw[if_neg e,gV _ _ _ _ (fun z=>e z.symm)]
theorem lg(n:Nat)(v:Int)(z:Nat)(h:z<n):rd (List.replicate n v) z=v:=by
 unfold rd;rw[Int.toNat_natCast,List.getD_eq_getElem?_getD,List.getElem?_replicate,if_pos h];rfl
theorem Ee(ys:List Int)(n c:Nat)(v:Int)(hl:ys.length=n)(hc:c<n)(B:rd ys c≠v):eM (ys.set c v) (List.replicate n v) n<eM ys (List.replicate n v) n:=by
 refine tx ys (ys.set c v) (List.replicate n v) (fun i h=>?_) c ?_ ?_ n hc
 · rw[fN _ _ _ _ ac]
   by_cases e:i=c
   ·rw[if_pos e,e,lg n v c hc]
   ·rw[if_neg e];exact h
 ·rw[lg n v c hc];exact B
 ·rw[lg n v c hc,fN _ _ _ _ ac,if_pos rfl]
theorem zq(t:List Int)(n:Nat)(hn:n<=12)(ht:inR n t)(hi:bL n t)(v:Int)(hv:0<=v)(d:Nat)(xs:List Int)(hneg:∀z:Nat,z<n->Reach [t] n d z->rd xs z<0):
 ∀(m:Nat) (ys:List Int) (c:Nat) (S:Nat->Prop),eM ys (List.replicate n v) n<=m->ys.length=n->c<n->Reach [t] n d c->
  (∀z:Nat,z<n->S z->rd ys z=v/\Reach [t] n d z/\(S (rd t z).toNat\/rd t z=c))->(∀z:Nat,z<n->¬S z->rd ys z=rd xs z)->(S d\/c=d)->
  ∃r,Ev (fun k=>cO.at k t v ys c) r/\r.length=n/\∀z:Nat,z<n->(Reach [t] n d z->rd r z=v)/\(¬Reach [t] n d z->rd r z=rd xs z):=by
 intro m
 induction m with
 |zero=>
  intro ys c S hm hl hc hr hS hN hd
  have hnn:¬rd ys c<0:=by
   have h0:=sD ys (List.replicate n v) n ac c hc;rw[h0,lg n v c hc];omega
  have o:S c:=Classical.byContradiction fun z=>by
   have h1:=hN c hc z;have h2:=hneg c hc hr;omega
  have L:kW [t] n S:=jq t n ht hi S fun k hk B=>by
   rcases(hS k hk B).2.2 with e|e
   ·exact e
   ·rw[e,Int.toNat_natCast];exact o
  have q:S d:=by rcases hd with e|e;exact e;rw[<-e];exact o
  refine⟨ys,Ev.s ?_,hl,fun z hz=>⟨fun h=>(hS z hz ((h S L).1 q)).1,fun h=>hN z hz fun hs=>h (hS z hz hs).2.1⟩⟩;simp only[cO.at,hl,show(0:Int)<=(c:Int) by omega,show(c:Int)<(n:Int) by omega,hnn,if_true,if_false];exact Ev.const rfl
 |succ m ih=>
  intro ys c S hm hl hc hr hS hN hd;by_cases hneg':rd ys c<0
  · have o:¬S c:=fun z=>by
     have:=(hS c hc z).1;omega
    have w:=ht.2 c hc;obtain⟨c',j⟩:∃c':Nat,rd t c=c':=⟨(rd t c).toNat,ac⟩;have u:c'<n:=ac;have b:=Reach.step (ps:=[t]) (p:=t) ay hc;rw[j,Int.toNat_natCast]at b;have x:=Ee ys n c v hl hc ac
    obtain⟨r,e1,e2,e3⟩:=ih (ys.set c v) c' (fun z=>S z\/z=c) ac (by simp[hl]) u (hr.trans b)
     (fun z hz hs=>by
       rw[fN _ _ _ _ ac];by_cases e:z=c
       ·subst e;rw[if_pos rfl];exact⟨rfl,hr,.inr j⟩
       · rw[if_neg e]
         have G:S z:=hs.resolve_right e;obtain⟨s1,s2,s3⟩:=hS z hz G;refine⟨s1,s2,.inl ?_⟩;rcases s3 with s3|s3
         ·exact .inl s3
         ·rw[s3,Int.toNat_natCast];exact .inr rfl)
     (fun z hz hs=>by
       rw[fN _ _ _ _ ac,if_neg (fun e=>hs (.inr e))];exact hN z hz fun e=>hs (.inl e))
     (by rcases hd with e|e;exact .inl (.inl e);exact .inl (.inr e.symm))
    refine⟨r,Ev.s ?_,e2,e3⟩;simp only[cO.at,hl,ht.1,show(0:Int)<=(c:Int) by omega,show(c:Int)<(n:Int) by omega,hneg',if_true,Int.toNat_natCast,j];exact e1
  · have o:S c:=Classical.byContradiction fun z=>by
     have h1:=hN c hc z;have h2:=hneg c hc hr;omega
    have L:kW [t] n S:=jq t n ht hi S fun k hk B=>by
     rcases(hS k hk B).2.2 with e|e
     ·exact e
     ·rw[e,Int.toNat_natCast];exact o
    have q:S d:=by rcases hd with e|e;exact e;rw[<-e];exact o
    refine⟨ys,Ev.s ?_,hl,fun z hz=>⟨fun h=>(hS z hz ((h S L).1 q)).1,fun h=>hN z hz fun hs=>h (hS z hz hs).2.1⟩⟩;simp only[cO.at,hl,show(0:Int)<=(c:Int) by omega,show(c:Int)<(n:Int) by omega,hneg',if_true,if_false];exact Ev.const rfl
def fD(t f:List Int)(n a:Nat)(xs:List Int)(L:Nat):Prop:=(xs.length=n)/\(∀x:Nat,x<n-> -1<=rd xs x/\rd xs x<=L)/\(rd xs a=0)/\(∀x:Nat,x<n->rd xs (rd t x)=rd xs x)/\(∀x:Nat,x<n->rd xs x=0->Reach [t] n x a)/\(∀x:Nat,x<n->0<rd xs x->∃y:Nat,y<n/\Reach [t] n y x/\rd xs (rd f y)+1=rd xs x)
theorem fD.len{t f:List Int}{n a:Nat}{xs:List Int}{L:Nat}(h:fD t f n a xs L):xs.length=n:=h.1
theorem fD.rng{t f:List Int}{n a:Nat}{xs:List Int}{L:Nat}(h:fD t f n a xs L):∀x:Nat,x<n-> -1<=rd xs x/\rd xs x<=L:=h.2.1
theorem fD.start{t f:List Int}{n a:Nat}{xs:List Int}{L:Nat}(h:fD t f n a xs L):rd xs a=0:=h.2.2.1
theorem fD.turn{t f:List Int}{n a:Nat}{xs:List Int}{L:Nat}(h:fD t f n a xs L):∀x:Nat,x<n->rd xs (rd t x)=rd xs x:=h.2.2.2.1
theorem fD.zero{t f:List Int}{n a:Nat}{xs:List Int}{L:Nat}(h:fD t f n a xs L):∀x:Nat,x<n->rd xs x=0->Reach [t] n x a:=h.2.2.2.2.1
theorem fD.back{t f:List Int}{n a:Nat}{xs:List Int}{L:Nat}(h:fD t f n a xs L):∀x:Nat,x<n->0<rd xs x->∃y:Nat,y<n/\Reach [t] n y x/\rd xs (rd f y)+1=rd xs x:=h.2.2.2.2.2
theorem F5(t f:List Int)(n:Nat)(hn:n<=12)(ht:inR n t)(hi:bL n t)(hf:inR n f)(a:Nat)(xs:List Int)(L:Nat)(hL:1<=L)(h:fD t f n a xs L)(e d:Nat)(he:e<n)(hd:d<n)(v:rd f e=d)(C:rd f d=e)(B:rd xs d+1=L):
 ∃r,Ev (fun k=>cO.at k t (L:Int) xs (e:Int)) r/\fD t f n a r L/\0<=rd r e/\(∀z:Nat,z<n->0<=rd xs z->rd r z=rd xs z)/\∀z:Nat,z<n->rd r z=L\/rd r z=rd xs z:=by
 by_cases hneg:rd xs e<0
 · have hall:∀z:Nat,z<n->Reach [t] n e z->rd xs z<0:=fun z hz hr=>by
    have:=lF ht hi xs h.turn hr;omega
   obtain⟨r,e1,e2,e3⟩:=zq t n hn ht hi L ac e xs hall _ xs e (fun _=>False) (Nat.le_refl _) h.len he (Reach.refl _ _ _) (fun z _ hs=>hs.elim) (fun z _ _=>rfl) (.inr rfl)
   have keep:∀z:Nat,z<n->0<=rd xs z->rd r z=rd xs z:=fun z hz h0=>(e3 z hz).2 fun hr=>by
    have:=hall z hz hr;omega
   have j:=h.start;have o:=h.len
   have m:∀z:Nat,z<n->rd r z=L\/rd r z=rd xs z:=fun z hz=>by
    by_cases hr:Reach [t] n e z
    ·exact .inl ((e3 z hz).1 hr)
    ·exact .inr ((e3 z hz).2 hr)
   refine⟨r,e1,⟨e2,fun x hx=>?_,?_,fun x hx=>?_,fun x hx h0=>?_,fun x hx h0=>?_⟩,?_,keep,m⟩
   · rcases m x hx with q|q
     ·omega
     ·rw[q];exact h.rng x hx
   · by_cases han:a<n
     ·rw[keep a han ac];exact h.start
     · unfold rd at j ⊢
       rw[Int.toNat_natCast,List.getD_eq_getElem?_getD,List.getElem?_eq_none ac]at j ⊢;exact j
   · have w:=ht.2 x hx
     obtain⟨c,hc⟩:∃c:Nat,rd t x=c:=⟨(rd t x).toNat,ac⟩;have b:=Reach.step (ps:=[t]) (p:=t) ay hx;have u:=h.turn x hx;rw[hc,Int.toNat_natCast]at b;rw[hc]at u ⊢;by_cases hr:Reach [t] n e x
     ·rw[(e3 x hx).1 hr,(e3 c ac).1 (hr.trans b)]
     ·rw[(e3 x hx).2 hr,(e3 c ac).2 (fun q=>hr (q.trans b.symm))];exact u
   · rcases m x hx with q|q
     ·omega
     ·rw[q]at h0;exact h.zero x hx h0
   · by_cases hr:Reach [t] n e x
     · refine⟨e,he,hr,?_⟩
       rw[v,keep d hd ac,(e3 x hx).1 hr];exact B
     · have q:=(e3 x hx).2 hr
       rw[q]at h0 ⊢;obtain⟨y,y1,y2,y3⟩:=h.back x hx h0;have A:=hf.2 y y1;refine⟨y,y1,y2,?_⟩;obtain⟨c,hc⟩:∃c:Nat,rd f y=c:=⟨(rd f y).toNat,ac⟩;rw[hc]at y3 ⊢;rw[keep c ac ac];exact y3
   ·rw[(e3 e he).1 (Reach.refl _ _ _)];omega
 · refine⟨xs,Ev.s ?_,h,ac,fun z _ _=>rfl,fun z _=>.inr rfl⟩
   simp only[cO.at,h.len,show(0:Int)<=(e:Int) by omega,show(e:Int)<(n:Int) by omega,hneg,if_true,if_false];exact Ev.const rfl
theorem we(t f:List Int)(n:Nat)(hn:n<=12)(ht:inR n t)(hi:bL n t)(hf:inR n f)(E:∀i:Nat,i<n->eN f i)(a L:Nat)(b:L<=12):
 ∀(d i:Nat) (xs:List Int),n-i=d->i<=n->fD t f n a xs (L+1)->(∀x:Nat,x<n->0<=rd xs x->(rd xs x<L\/rd xs x=L/\x<i)->0<=rd xs (rd f x)/\rd xs (rd f x)<=rd xs x+1)->
  ∃r,Ev (fun k=>cO.l2 k t f (L:Int) xs (i:Int)) r/\fD t f n a r (L+1)/\∀x:Nat,x<n->0<=rd r x->rd r x<((L+1:Nat):Int)->0<=rd r (rd f x)/\rd r (rd f x)<=rd r x+1
 |0,i,xs,hd,hi',h,hE=>by
  refine⟨xs,Ev.s ?_,h,fun x hx h0 h1=>hE x hx h0 ac⟩;simp only[cO.l2,hf.1,show ¬(i:Int)<(n:Int) by omega,if_false];exact Ev.const rfl
 |d+1,i,xs,hd,hi',h,hE=>by
  have hlt:i<n:=ac;have u:=hf.2 i hlt;obtain⟨e,he⟩:∃e:Nat,rd f i=e:=⟨(rd f i).toNat,ac⟩;have m:e<n:=ac;have v:rd f e=i:=by have:=(E i hlt).2;rwa [he]at this
  have g1:(i:Int)<(n:Int):=ac;have g2:(0:Int)<=(i:Int):=ac;by_cases c:rd xs i=L
  · obtain⟨r,e1,e2,e3,e4,e5⟩:=F5 t f n hn ht hi hf a xs (L+1) ac h e i m hlt v he ac
    obtain⟨r',f1,f2,f3⟩:=we t f n hn ht hi hf E a L b d (i+1) r ac ac e2 (fun x hx h0 hc=>by
     have A:=hf.2 x hx;obtain⟨q,hq⟩:∃q:Nat,rd f x=q:=⟨(rd f x).toNat,ac⟩;by_cases hxi:x=i
     · subst hxi
       rw[he];have hb:=(e2.rng e m).2;have hk:=e4 x hx ac;exact⟨e3,ac⟩
     · have G:0<=rd xs x:=by
        rcases e5 x hx with w|w
        ·omega
        ·rw[<-w];exact h0
       have hv:=e4 x hx G;rw[hv]at h0 hc;have:=hE x hx G ac;rw[hq]at this ⊢;rw[e4 q ac this.1,hv];exact this)
    refine⟨r',Ev.s ?_,f2,f3⟩;simp only[cO.l2,hf.1,h.len,g1,g2,c,he,if_true,show wrap64 ((L:Int)+1)=((L+1:Nat):Int)from cM ac];refine Ev.bind e1 ?_;rw[cM ac];exact f1
  · obtain⟨r',f1,f2,f3⟩:=we t f n hn ht hi hf E a L b d (i+1) xs ac ac h (fun x hx h0 hc=>hE x hx h0 (by
     rcases hc with hc|hc
     ·exact .inl hc
     · refine .inr ⟨hc.1,?_⟩
       have:x≠i:=fun e=>c (by rw[<-e];exact hc.1)
       omega))
    refine⟨r',Ev.s ?_,f2,f3⟩;simp only[cO.l2,hf.1,h.len,g1,g2,c,if_true,if_false];rw[cM ac];exact f1
theorem yy(t f:List Int)(n:Nat)(hn:n<=12)(ht:inR n t)(hi:bL n t)(hf:inR n f)(E:∀i:Nat,i<n->eN f i)(a:Nat):
 ∀(d L:Nat) (xs:List Int),n-L=d->L<=n->fD t f n a xs L->(∀x:Nat,x<n->0<=rd xs x->rd xs x<L->0<=rd xs (rd f x)/\rd xs (rd f x)<=rd xs x+1)->
  ∃r,Ev (fun k=>cO.l1 k t f xs (L:Int)) r/\fD t f n a r n/\∀x:Nat,x<n->0<=rd r x->rd r x<(n:Int)->0<=rd r (rd f x)/\rd r (rd f x)<=rd r x+1
 |0,L,xs,hd,hL,h,hE=>by
  have:L=n:=ac;subst this;refine⟨xs,Ev.s ?_,h,hE⟩;simp only[cO.l1,ht.1,show ¬(L:Int)<(L:Int) by omega,if_false];exact Ev.const rfl
 |d+1,L,xs,hd,hL,h,hE=>by
  have h':fD t f n a xs (L+1):=⟨h.len,fun x hx=>⟨(h.rng x hx).1,by have:=(h.rng x hx).2;omega⟩,h.start,h.turn,h.zero,h.back⟩;obtain⟨r,e1,e2,e3⟩:=we t f n hn ht hi hf E a L ac n 0 xs ac ac h' (fun x hx h0 hc=>hE x hx h0 ac);obtain⟨r',f1,f2,f3⟩:=yy t f n hn ht hi hf E a d (L+1) r ac ac e2 e3;refine⟨r',Ev.s ?_,f2,f3⟩;simp only[cO.l1,ht.1,show(L:Int)<(n:Int) by omega,if_true];refine Ev.bind e1 ?_;rw[cM ac];exact f1
theorem Hf(t f:List Int)(n:Nat)(H:dE t f n)(a:Nat)(ha:a<n)(xs:List Int)(h:fD t f n a xs n)(hE:∀x:Nat,x<n->0<=rd xs x->rd xs x<(n:Int)->0<=rd xs (rd f x)/\rd xs (rd f x)<=rd xs x+1):dG t f n a xs:=by
 obtain⟨hn,h1,ht,hi,hf,E,J⟩:=H
 have lt:∀x:Nat,x<n->rd xs x<n:=by
  intro x hx;refine Classical.byContradiction fun r=>?_
  have hb:=h.rng x hx;have T:rd xs x=n:=ac
  have chain:∀d j:Nat,n-j=d->j<=n->∃y:Nat,y<n/\rd xs y=j:=by
   intro d
   induction d with
   |zero=>intro j hj o;exact⟨x,hx,ac⟩
   |succ d ih=>
    intro j hj o;obtain⟨y,y1,y2⟩:=ih (j+1) ac ac;obtain⟨z,z1,z2,z3⟩:=h.back y y1 ac;have I:=hf.2 z z1;refine⟨(rd f z).toNat,ac,?_⟩;rw[show((rd f z).toNat:Int)=rd f z by omega];omega
  have b:∀j:Nat,∃y:Nat,j<=n->y<n/\rd xs y=j:=fun j=>by
   by_cases hj:j<=n
   · obtain⟨y,q⟩:=chain _ j rfl hj
     exact⟨y,fun _=>q⟩
   ·exact⟨0,fun q=>absurd q hj⟩
  have bk:cm (n+1) (fun j=>j<n+1) (n+1):=⟨List.range (n+1),List.nodup_range,fun y=>by simp,ay⟩;have s:cm (n+1) (fun j=>j<n) n:=⟨List.range n,List.nodup_range,fun y=>by simp;omega,ay⟩
  have:=cm.le bk s (fun j=>Classical.choose (b j)) (fun j hj _=>by
   have q:=Classical.choose_spec (b j) ac;exact⟨ac,q.1⟩) (fun i j hi' _ hj _ e=>by
   have q1:=(Classical.choose_spec (b i) ac).2;have q2:=(Classical.choose_spec (b j) ac).2;have e':Classical.choose (b i)=Classical.choose (b j):=e;rw[e',q2]at q1;omega)
  omega
 have L:kW [t,f] n (fun z=>0<=rd xs z):=by
  intro p hp k hk;simp at hp;rcases hp with rfl|rfl
  · have h1:=ht.2 k hk
    have h2:=h.turn k hk;show 0<=rd xs k↔0<=rd xs ((rd p k).toNat:Nat);rw[show((rd p k).toNat:Int)=rd p k by omega,h2]
  · have h1:=hf.2 k hk
    have h2:=(E k hk).2;show 0<=rd xs k↔0<=rd xs ((rd p k).toNat:Nat);constructor
    · intro q
      rw[show((rd p k).toNat:Int)=rd p k by omega];exact(hE k hk q (lt k hk)).1
    · intro q
      have:=(hE _ (show(rd p k).toNat<n by omega) q (lt _ ac)).1;rw[show((rd p k).toNat:Int)=rd p k by omega,h2]at this;exact this
 have c:∀x:Nat,x<n->0<=rd xs x:=fun x hx=>(J a x ha hx _ L).1 (by show 0<=rd xs a;rw[h.start];omega)
 refine⟨h.len,fun x hx=>⟨c x hx,lt x hx⟩,h.start,h.turn,fun x hx=>?_,h.zero,h.back⟩;have A:=hf.2 x hx;have m:=(E x hx).2;have q:=(hE (rd f x).toNat ac (c _ ac) (lt _ ac)).2;rw[show((rd f x).toNat:Int)=rd f x by omega,m]at q;exact q
theorem Cm(n:Nat)(hn:n<=12):∀(d i:Nat) (xs:List Int),n-i=d->i<=n->xs.length=n->(∀z:Nat,z<i->rd xs z= -1)->∃r,Ev (fun k=>cO.l0 k xs (i:Int) (n:Int)) r/\r.length=n/\∀z:Nat,z<n->rd r z= -1
 |0,i,xs,hd,hi,hl,h=>by
  have:i=n:=ac;subst this;refine⟨xs,Ev.s ?_,hl,h⟩;simp only[cO.l0,show ¬(i:Int)<(i:Int) by omega,if_false];exact Ev.const rfl
 |d+1,i,xs,hd,hi,hl,h=>by
  obtain⟨r,r1,r2,r3⟩:=Cm n hn d (i+1) (xs.set i (-1)) ac ac (by simp[hl]) (fun z hz=>by
   rw[fN _ _ _ _ ac];by_cases e:z=i
   ·rw[if_pos e]
   ·rw[if_neg e];exact h z ac)
  refine⟨r,Ev.s ?_,r2,r3⟩;simp only[cO.l0,hl,show(i:Int)<(n:Int) by omega,show(0:Int)<=(i:Int) by omega,if_true,Int.toNat_natCast];rw[cM ac];exact r1
theorem EH(t f:List Int)(n:Nat)(H:dE t f n)(a:Nat)(ha:a<n):∃g,dG t f n a g/\Ev (fun k=>jh.f k t f (a:Int)) g:=by
 obtain⟨hn,h1,ht,hi,hf,E,J⟩:=id H;obtain⟨xs,x1,x2,x3⟩:=Cm n hn n 0 (List.replicate n 0) ac ac ay (fun z hz=>by omega);have hall:∀z:Nat,z<n->Reach [t] n a z->rd xs z<0:=fun z hz _=>by rw[x3 z hz];omega
 obtain⟨ys,y1,y2,y3⟩:=zq t n hn ht hi 0 ac a xs hall _ xs a (fun _=>False) (Nat.le_refl _) x2 ha (Reach.refl _ _ _) (fun z _ hs=>hs.elim) (fun z _ _=>rfl) (.inr rfl)
 have yv:∀z:Nat,z<n->(rd ys z=0/\Reach [t] n a z)\/(rd ys z= -1/\¬Reach [t] n a z):=fun z hz=>by
  by_cases hr:Reach [t] n a z
  ·exact .inl ⟨(y3 z hz).1 hr,hr⟩
  ·exact .inr ⟨by rw[(y3 z hz).2 hr,x3 z hz],hr⟩
 have j:fD t f n a ys 0:=by
  refine⟨y2,fun x hx=>?_,?_,fun x hx=>?_,fun x hx h0=>?_,fun x hx h0=>?_⟩
  ·rcases yv x hx with q|q<;>omega
  ·exact(y3 a ha).1 (Reach.refl _ _ _)
  · have w:=ht.2 x hx
    obtain⟨c,hc⟩:∃c:Nat,rd t x=c:=⟨(rd t x).toNat,ac⟩;have b:=Reach.step (ps:=[t]) (p:=t) ay hx;rw[hc,Int.toNat_natCast]at b;rw[hc];rcases yv x hx with q|q
    ·rw[q.1,(y3 c ac).1 (q.2.trans b)]
    · rcases yv c ac with p|p
      ·exact absurd (p.2.trans b.symm) q.2
      ·rw[q.1,p.1]
  · rcases yv x hx with q|q
    ·exact q.2.symm
    ·omega
  ·rcases yv x hx with q|q<;>omega
 obtain⟨r,r1,r2,r3⟩:=yy t f n hn ht hi hf E a n 0 ys ac ac j (fun x hx h0 h1=>by omega);refine⟨r,Hf t f n H a ha r r2 r3,?_⟩;unfold jh.f;have e:0<n/\n<=1048576:=⟨ac,ac⟩;simp only[ht.1,e,and_self,if_true];refine Ev.bind x1 ?_;exact Ev.bind y1 r1
def sS(n a:Nat)(g o:List Int):Prop:=o.length=n/\(∀z:Nat,z<n->rd g z<=rd o z/\rd o z<=n)/\rd o a=0
theorem yK(t f:List Int)(n:Nat)(H:dE t f n)(a:Nat)(ha:a<n)(g:List Int)(hg:dG t f n a g)(round:Int):∀(d i:Nat) (o:List Int),n-i=d->i<=n->sS n a g o->
 ∃o',sS n a g o'/\(∀r,Ev (fun k=>bW.l1 k o' (wrap64 (round+1)) t f) r->Ev (fun k=>bW.l2 k o round i t f) r)/\(∀z:Nat,z<n->rd o z=rd g z->rd o' z=rd g z)/\
  (∀j:Nat,i<=j->j<n->(rd o (rd f j)=rd g (rd f j)->rd g j=rd g (rd f j)+1->rd o' j=rd g j)/\(rd o j=rd g j->rd o' (rd t j)=rd g (rd t j)))
 |0,i,o,hd,hi,ho=>by
  refine⟨o,ho,fun r h=>Ev.s ?_,fun z _ h=>h,fun j h1 h2=>by omega⟩;simp only[bW.l2,ho.1,show ¬(i:Int)<(n:Int) by omega,if_false];exact h
 |d+1,i,o,hd,hi,ho=>by
  obtain⟨hn,h1,ht,hti,hf,E,J⟩:=id H;have hlt:i<n:=ac;have C:n-(i+1)=d:=ac;have V:=ht.2 i hlt;have U:=hf.2 i hlt;obtain⟨ta,B⟩:∃c:Nat,rd t i=c:=⟨(rd t i).toNat,ac⟩;obtain⟨fb,x⟩:∃c:Nat,rd f i=c:=⟨(rd f i).toNat,ac⟩;have han:ta<n:=ac;have A:fb<n:=ac;obtain⟨hl,hb,h0⟩:=ho;have bi:=hb i hlt;have ba:=hb ta han;have bb:=hb fb A;have gi:=hg.rng i hlt;have gt:=hg.turn i hlt;have gf:=hg.flip i hlt;rw[B]at gt;rw[x]at gf;obtain⟨v,hv⟩:∃v,mn (rd o i) (rd o fb+1)=v:=⟨_,rfl⟩;have R:=uc (rd o i) (rd o fb+1);rw[hv]at R;obtain⟨o1,ho1⟩:∃o1,o.set i v=o1:=⟨_,rfl⟩;have r1:∀z:Nat,rd o1 z=if z=i then v else rd o z:=fun z=>by rw[<-ho1];exact fN o i z v ac
  have m:o1.length=n:=by rw[<-ho1];simp[hl]
  have u:rd o1 i=v:=by rw[r1,if_pos rfl]
  have b1:∀z:Nat,z<n->rd g z<=rd o1 z/\rd o1 z<=rd o z:=fun z hz=>by
   rw[r1];by_cases e:z=i
   ·subst e;rw[if_pos rfl];omega
   ·rw[if_neg e];exact⟨(hb z hz).1,Int.le_refl _⟩
  obtain⟨w,hw⟩:∃w,mn (rd o1 ta) (rd o1 i)=w:=⟨_,rfl⟩;have b:=uc (rd o1 ta) (rd o1 i);rw[hw]at b;obtain⟨o2,eg⟩:∃o2,o1.set ta w=o2:=⟨_,rfl⟩;have r2:∀z:Nat,rd o2 z=if z=ta then w else rd o1 z:=fun z=>by rw[<-eg];exact fN o1 ta z w ac
  have F:o2.length=n:=by rw[<-eg];simp[m]
  have c1:=b1 ta han;have c2:=b1 i hlt
  have b2:∀z:Nat,z<n->rd g z<=rd o2 z/\rd o2 z<=rd o1 z:=fun z hz=>by
   rw[r2];by_cases e:z=ta
   ·subst e;rw[if_pos rfl];omega
   ·rw[if_neg e];exact⟨(b1 z hz).1,Int.le_refl _⟩
  have keep:∀z:Nat,z<n->rd o z=rd g z->rd o2 z=rd g z:=fun z hz e=>by
   have p1:=b1 z hz;have p2:=b2 z hz;omega
  have G:sS n a g o2:=⟨F,fun z hz=>⟨(b2 z hz).1,by have p1:=b1 z hz;have p2:=b2 z hz;have p3:=hb z hz;omega⟩,by
   have q:=keep a ha (by rw[h0,hg.start]);rw[q,hg.start]⟩
  obtain⟨o',d1,d2,d3,d4⟩:=yK t f n H a ha g hg round d (i+1) o2 C hlt G;refine⟨o',d1,fun r h=>Ev.s ?_,fun z hz e=>d3 z hz (keep z hz e),fun j h1 h2=>?_⟩
  · have y:=d2 r h
    have g1:(i:Int)<(n:Int):=ac;have g2:(0:Int)<=(i:Int):=ac;have g3:(0:Int)<=(ta:Int):=ac;have g4:(ta:Int)<(n:Int):=ac;have g5:(0:Int)<=(fb:Int):=ac;have g6:(fb:Int)<(n:Int):=ac;have gw:wrap64 (rd o fb+1)=rd o fb+1:=w64 ac ac;simp only[bW.l2,ht.1,hf.1,hl,m,g1,g2,g3,g4,g5,g6,B,x,hv,hw,gw,if_true,Int.toNat_natCast,ho1,eg,Option.bind_some];rw[cM ac];exact y
  · by_cases e:j=i
    · subst e
      rw[B,x];refine⟨fun e1 e2=>d3 j h2 ?_,fun e1=>d3 ta han ?_⟩
      · have p2:=b2 j h2
        rw[u]at p2;omega
      · have p2:rd o2 ta=w:=by rw[r2,if_pos rfl]
        rw[u]at b;rw[p2];omega
    · have hj:=d4 j ac h2
      have I:=hf.2 j h2;obtain⟨c,hc⟩:∃c:Nat,rd f j=c:=⟨(rd f j).toNat,ac⟩;rw[hc]at hj ⊢;exact⟨fun e1 e2=>hj.1 (keep c ac e1) e2,fun e1=>hj.2 (keep j h2 e1)⟩
theorem yE(t f:List Int)(n:Nat)(H:dE t f n)(a:Nat)(ha:a<n)(g:List Int)(hg:dG t f n a g):∀(d i:Nat) (o:List Int),2*n-i=d->i<=2*n->sS n a g o->eM o g n<=d->Ev (fun k=>bW.l1 k o (i:Int) t f) g
 |0,i,o,hd,hi,ho,hl=>by
  obtain⟨hn,h1,ht,hti,hf,E,J⟩:=id H;refine Ev.s ?_;have G:wrap64 (2*(n:Int))=2*(n:Int):=w64 ac ac;simp only[bW.l1,ho.1,G,show ¬(i:Int)<2*(n:Int) by omega,if_false];have:o=g:=jV o g (ho.1.trans hg.len.symm) fun z hz=>sD o g n ac z (by rw[<-ho.1];exact hz)
  exact Ev.const (by rw[this])
 |d+1,i,o,hd,hi,ho,hl=>by
  obtain⟨hn,h1,ht,hti,hf,E,J⟩:=id H;obtain⟨o',c1,c2,c3,c4⟩:=yK t f n H a ha g hg i n 0 o ac ac ho;refine Ev.s ?_;have G:wrap64 (2*(n:Int))=2*(n:Int):=w64 ac ac;simp only[bW.l1,ho.1,G,show(i:Int)<2*(n:Int) by omega,if_true];refine c2 g ?_;rw[cM ac];refine yE t f n H a ha g hg d (i+1) o' ac ac c1 ?_
  have v:∀z:Nat,¬z<n->rd o z=rd o' z:=by
   intro z hz;unfold rd;rw[Int.toNat_natCast,List.getD_eq_getElem?_getD,List.getD_eq_getElem?_getD,List.getElem?_eq_none (by rw[ho.1];omega),List.getElem?_eq_none (by rw[c1.1];omega)]
  have keep:∀z:Nat,rd o z=rd g z->rd o' z=rd g z:=fun z e=>by
   by_cases hz:z<n
   ·exact c3 z hz e
   ·rw[<-v z hz];exact e
  by_cases hz:eM o g n=0
  · have:=sW o o' g keep n
    omega
  · have b:∃z:Nat,z<n/\rd o z≠rd g z/\rd o' z=rd g z:=by
     refine Classical.byContradiction fun r=>?_
     have j:∀z:Nat,z<n->(rd o z=rd g z↔rd o' z=rd g z):=fun z hz=>⟨keep z,fun e=>Classical.byContradiction fun B=>r ⟨z,hz,B,e⟩⟩
     have L:kW [t] n (fun z=>rd o z=rd g z):=jq t n ht hti _ fun k hk e=>by
      have hr:=ht.2 k hk;refine(j (rd t k).toNat ac).2 ?_;rw[show((rd t k).toNat:Int)=rd t k by omega];exact(c4 k ac hk).2 e
     have hall:∀m z:Nat,z<n->rd g z<=m->rd o z=rd g z:=by
      intro m
      induction m with
      |zero=>
       intro z hz hm;have hb:=hg.rng z hz;have hr:=hg.zero z hz ac;refine(hr _ L).2 ?_;show rd o a=rd g a;rw[ho.2.2,hg.start]
      |succ m ih=>
       intro z hz hm;by_cases hm':rd g z<=m
       ·exact ih z hz hm'
       · obtain⟨y,y1,y2,y3⟩:=hg.back z hz ac
         have A:=hf.2 y y1;obtain⟨c,hc⟩:∃c:Nat,rd f y=c:=⟨(rd f y).toNat,ac⟩;have q:=lF ht hti g hg.turn y2;have h4:=(c4 y ac y1).1;rw[hc]at y3 h4;have u:=h4 (ih c ac ac) ac;exact(y2 _ L).1 ((j y y1).2 u)
     have I:∀m,m<=n->eM o g m=0:=by
      intro m
      induction m with
      |zero=>intro _;rfl
      |succ m ih=>
       intro hm;simp only[eM];have hb:=hg.rng m ac;rw[if_pos (hall (rd g m).toNat m ac ac),ih ac]
     exact hz (I n (Nat.le_refl _))
    obtain⟨z,z1,z2,z3⟩:=b;have:=tx o o' g keep z z2 z3 n z1;omega
theorem BP(t f:List Int)(n:Nat)(hn:n<=12)(a:Nat)(ha:a<n):∀(d i:Nat) (o:List Int),n-i=d->i<=n->o.length=n->(∀z:Nat,z<i->rd o z=n)->
 ∃o',o'.length=n/\(∀z:Nat,z<n->rd o' z=n)/\∀r,Ev (fun k=>bW.l1 k (o'.set a 0) 0 t f) r->Ev (fun k=>bW.l0 k (a:Int) o (i:Int) t f) r
 |0,i,o,hd,hi,hl,h=>by
  refine⟨o,hl,fun z hz=>h z ac,fun r hr=>Ev.s ?_⟩;simp only[bW.l0,hl,show ¬(i:Int)<(n:Int) by omega,show(0:Int)<=(a:Int) by omega,show(a:Int)<(n:Int) by omega,if_true,if_false,Int.toNat_natCast];exact hr
 |d+1,i,o,hd,hi,hl,h=>by
  obtain⟨o',e1,e2,e3⟩:=BP t f n hn a ha d (i+1) (o.set i n) ac ac (by simp[hl]) (fun z hz=>by
   rw[fN _ _ _ _ ac];by_cases e:z=i
   ·rw[if_pos e]
   ·rw[if_neg e];exact h z ac)
  refine⟨o',e1,e2,fun r hr=>Ev.s ?_⟩;simp only[bW.l0,hl,show(i:Int)<(n:Int) by omega,show(0:Int)<=(i:Int) by omega,if_true,Int.toNat_natCast];rw[cM ac];exact e3 r hr
theorem GT(t f:List Int)(n:Nat)(H:dE t f n)(a:Nat)(ha:a<n)(g:List Int)(hg:dG t f n a g):Ev (fun k=>bW.f k t f (a:Int)) g:=by
 obtain⟨hn,h1,ht,hti,hf,E,J⟩:=id H;obtain⟨o,o1,o2,o3⟩:=BP t f n hn a ha n 0 (List.replicate n 0) ac ac ay (fun z hz=>by omega);unfold bW.f;simp only[ht.1,Int.toNat_natCast,show(0:Int)<=(n:Int) by omega,show n<=35184372088832 by omega,if_true];refine o3 g ?_;have hr:∀z:Nat,rd (o.set a 0) z=if z=a then 0 else rd o z:=fun z=>fN o a z 0 ac
 refine yE t f n H a ha g hg (2*n) 0 (o.set a 0) ac ac ⟨by simp[o1],fun z hz=>?_,by rw[hr,if_pos rfl]⟩ ?_
 · rw[hr]
   have hb:=hg.rng z hz;by_cases e:z=a
   ·subst e;rw[if_pos rfl,hg.start];omega
   ·rw[if_neg e,o2 z hz];omega
 · have:=ux (o.set a 0) g n
   omega
theorem uO(t f:List Int)(n:Nat)(H:dE t f n)(a:Nat)(ha:a<n):∃g,dG t f n a g/\Ev (fun k=>bW.f k t f (a:Int)) g/\Ev (fun k=>jh.f k t f (a:Int)) g:=by
 obtain⟨g,hg,e⟩:=EH t f n H a ha;exact⟨g,hg,GT t f n H a ha g hg,e⟩
theorem vt(l:List Int)(i:Nat)(v:Int)(h:i<l.length):(l.set i v).take (i+1)=l.take i++[v]:=by
 rw[List.take_succ_eq_append_getElem (by simpa using h),List.take_set_of_le (Nat.le_refl _),List.getElem_set_self]
def aX(a b:List Int):Nat->List Int
 |0=>[]
 |i+1=>aX a b i++[rd b (rd a i)]
theorem ie(a b:List Int):∀n,(aX a b n).length=n
 |0=>rfl
 |n+1=>by simp[aX,ie a b n]
theorem iy(a b:List Int):∀(n i:Nat),i<n->rd (aX a b n) i=rd b (rd a i)
 |n+1,i,h=>by
  simp only[aX];by_cases e:i<n
  ·rw[qy _ _ _ (by rw[ie];exact e),iy a b n i e]
  · have:i=n:=ac
    subst this;have h2:i<(aX a b i++[rd b (rd a (i:Int))]).length:=by simp[ie]
    rw[dY _ i h2,List.getElem_append_right (by rw[ie];exact Nat.le_refl _)];simp[ie]
theorem jf(n:Nat)(a b:List Int)(ha:inR n a)(hb:inR n b):inR n (aX a b n):=by
 refine⟨ie a b n,fun i hi=>?_⟩;rw[iy a b n i hi];have h1:=ha.2 i hi;have h2:=hb.2 (rd a i).toNat ac
 rwa [show((rd a i).toNat:Int)=rd a i by omega]at h2
theorem zZ(n:Nat)(hn:n<=1048576)(a b:List Int)(ha:inR n a)(hb:inR n b):∀(d i:Nat),n-i=d->i<=n->Ev (fun k=>fR.l0 k a b (aX a b i) i) (aX a b n)
 |0,i,hd,hi=>by
  have:i=n:=ac;subst this;refine Ev.s ?_;simp only[fR.l0,ha.1,show ¬(i:Int)<(i:Int) by omega,if_false];exact Ev.const rfl
 |d+1,i,hd,hi=>by
  have h1:=ha.2 i ac;have hb1:=hb.1;refine Ev.s ?_;simp only[fR.l0,ha.1,hb1,ie,show(i:Int)<(n:Int) by omega,show(0:Int)<=(i:Int) by omega,h1.1,h1.2,show i<17592186044416 by omega,if_true];rw[cM ac];exact zZ n hn a b ha hb d (i+1) ac ac
theorem pE(n:Nat)(hn:n<=1048576)(a b:List Int)(ha:inR n a)(hb:inR n b):Ev (fun k=>fR.f k a b) (aX a b n):=by
 unfold fR.f;exact zZ n hn a b ha hb n 0 ac ac
theorem CX(n:Nat)(hn:n<=1048576)(a b:List Int)(ha:inR n a)(hb:inR n b):∀(d i:Nat) (l:List Int),n-i=d->i<=n->l.length=n->l.take i=aX a b i->Ev (fun k=>dJ.l0 k b l a n i) (aX a b n)
 |0,i,l,hd,hi,hl,ht=>by
  have:i=n:=ac;subst this;refine Ev.s ?_;simp only[dJ.l0,show ¬(i:Int)<(i:Int) by omega,if_false];rw[List.take_of_length_le ac]at ht;exact Ev.const (by rw[ht])
 |d+1,i,l,hd,hi,hl,ht=>by
  have h1:=ha.2 i ac;have hb1:=hb.1;refine Ev.s ?_;simp only[dJ.l0,ha.1,hb1,hl,show(i:Int)<(n:Int) by omega,show(0:Int)<=(i:Int) by omega,h1.1,h1.2,if_true,Int.toNat_natCast];rw[cM ac];refine CX n hn a b ha hb d (i+1) _ ac ac (by simpa using hl) ?_;rw[vt _ _ _ ac,ht];rfl
theorem ma(n:Nat)(hn:n<=1048576)(a b:List Int)(ha:inR n a)(hb:inR n b):Ev (fun k=>dJ.f k a b) (aX a b n):=by
 unfold dJ.f;have h1:n<=35184372088832:=ac;have h2:(0:Int)<=(n:Int):=ac;simp only[ha.1,Int.toNat_natCast,h1,h2,if_true];exact CX n hn a b ha hb n 0 _ ac ac ay (by simp[aX])
theorem oC(t f:List Int)(n:Nat)(ht:inR n t)(hf:inR n f):aX f t n=cmpL t f n:=
 jV _ _ (by rw[ie,(iz t f n ht hf).1]) fun i hi=>by
  rw[ie]at hi;rw[iy f t n i hi,eI t f n i hi]
theorem oB(f:List Int)(n:Nat)(E:∀i:Nat,i<n->eN f i):bL n f:=fun i j h1 h2 e=>by
 have f1:=(E i h1).2;have f2:=(E j h2).2;rw[e]at f1;omega
theorem HZ(t f:List Int)(n:Nat)(H:dE t f n)(h4:∀l∈(aE (aX f t n) n n).2,l.length=4)(hE:2*(aE t n n).2.length+2*(aE (aX f t n) n n).2.length=4+n)
 (a:Nat)(ha:a<n)(g:List Int)(hg:dG t f n a g):∀x:Nat,x<n->rd g (x:Int)≠rd g (rd f (x:Int)):=by
 obtain⟨hn,h1,ht,hti,hf,E,J⟩:=id H;have u:=oB f n E;have o:=iz t f n ht hf;have v:=jM t f n ht hti hf u;rw[oC t f n ht hf]at h4 hE;obtain⟨_,r⟩:=ql _ n o v h4
 let c:Nat->Bool:=fun d=>decide (rd g (d:Int)=rd g (rd f (d:Int)))
 have b:∀d:Nat,d<n->(((rd f (d:Int)).toNat:Nat):Int)=rd f (d:Int)/\(rd f (d:Int)).toNat<n:=fun d hd=>by
  have:=hf.2 d hd;omega
 have w:kv f n c:=fun d hd=>by
  show decide _=decide _;rw[(b d hd).1,(E d hd).2];simp only[eq_comm]
 have r1:∀{ps:List (List Int)} (x y:Nat),t∈ps->Reach [t] n x y->Reach ps n x y:=fun x y hm h S hS=>h S fun p hp k hk=>by
  rw[List.mem_singleton.1 hp];exact hS t hm k hk
 have q:∀(m x:Nat),x<n->rd g (x:Int)=m->Reach [t,fx f n (fun d=>!c d)] n x a:=by
  intro m
  induction m with
  |zero=>exact fun x hx e=>r1 x a ay (hg.zero x hx (by simpa using e))
  |succ m ih=>
   intro x hx e;obtain⟨y,y1,y2,y3⟩:=hg.back x hx ac;have ey:=lF ht hti g hg.turn y2;have s:=Reach.step (ps:=[t,fx f n (fun d=>!c d)]) (n:=n) (p:=fx f n (fun d=>!c d)) ay y1;have nb:c y=false:=decide_eq_false ac;rw[jN f n _ y y1,if_pos (by show(!c y)=true;rw[nb];rfl)]at s;have z:=ih (rd f (y:Int)).toNat (b y y1).2 (by rw[(b y y1).1];omega);exact(r1 y x ay y2).symm.trans (s.trans z)
 have A:∀i j:Nat,i<n->j<n->Reach [t,fx f n (fun d=>!c d)] n i j:=fun i j hi hj=>by
  have gi:=hg.rng i hi;have gj:=hg.rng j hj;exact(q (rd g (i:Int)).toNat i hi ac).trans (q (rd g (j:Int)).toNat j hj ac).symm
 have even:∀x,x<n->c x=true->∃y,y<n/\y≠x/\c y=true/\Reach [cmpL t f n] n x y:=by
  intro x hx hb;have hb:rd g (x:Int)=rd g (rd f (x:Int)):=of_decide_eq_true hb
  have nx:∀z:Nat,z<n->∃y:Nat,y<n/\rd (cmpL t f n) (z:Int)=y/\rd g (y:Int)=rd g (rd f (z:Int))/\Reach [cmpL t f n] n z y:=fun z hz=>by
   have pz:=o.2 z hz;have s:=Reach.step (ps:=[cmpL t f n]) (n:=n) (p:=cmpL t f n) ay hz;refine⟨(rd (cmpL t f n) (z:Int)).toNat,ac,ac,?_,s⟩;rw[show(((rd (cmpL t f n) (z:Int)).toNat:Nat):Int)=rd (cmpL t f n) (z:Int) by omega,eI t f n z hz,<-(b z hz).1,hg.turn _ (b z hz).2]
  have one:∀z:Nat,z<n->c z=false->rd g (rd f (z:Int))=rd g (z:Int)+1\/rd g (rd f (z:Int))+1=rd g (z:Int):=fun z hz h=>by
   have h:¬rd g (z:Int)=rd g (rd f (z:Int)):=of_decide_eq_false h;have a1:=hg.flip z hz;have a2:=hg.flip _ (b z hz).2;rw[(b z hz).1,(E z hz).2]at a2;omega
  obtain⟨y1,a1,b1,c1,d1⟩:=nx x hx;obtain⟨y2,a2,b2,c2,d2⟩:=nx y1 a1;obtain⟨y3,a3,b3,c3,d3⟩:=nx y2 a2;obtain⟨q1,q2,q3,q4⟩:=r x hx;rw[b1,b2,b3]at q1 q4;rw[b1,b2]at q3;rw[b1]at q2
  have c4:rd g (x:Int)=rd g (rd f (y3:Int)):=by
   obtain⟨y4,a4,b4,c4,d4⟩:=nx y3 a3;rw[<-c4,<-b4,q1]
  by_cases e1:c y1=true
  ·exact⟨y1,a1,ac,e1,d1⟩
  · by_cases e2:c y2=true
    ·exact⟨y2,a2,ac,e2,d1.trans d2⟩
    · by_cases e3:c y3=true
      ·exact⟨y3,a3,ac,e3,d1.trans (d2.trans d3)⟩
      · exfalso
        have o1:=one y1 a1 (by simpa using e1);have o2:=one y2 a2 (by simpa using e2);have o3:=one y3 a3 (by simpa using e3);omega
 intro x hx e;have:=EF t f n ht hti hf E h1 c w A even _ _ (rN t n ht hti) (rN _ n o v) hE x hx;exact absurd e (of_decide_eq_false this)
theorem Hb(t f:List Int)(n:Nat)(H:dE t f n)(h4:∀l∈(aE (aX f t n) n n).2,l.length=4)(hE:2*(aE t n n).2.length+2*(aE (aX f t n) n n).2.length=4+n)
 (a:Nat)(ha:a<n)(g:List Int)(hg:dG t f n a g)(x:Nat)(hx:x<n):rd g (rd f (x:Int))=rd g (x:Int)+1\/rd g (rd f (x:Int))+1=rd g (x:Int):=by
 have h:=HZ t f n H h4 hE a ha g hg x hx;obtain⟨hn,h1,ht,hti,hf,E,J⟩:=id H;have a1:=hg.flip x hx;have fx:=hf.2 x hx;have a2:=hg.flip (rd f (x:Int)).toNat ac;rw[show(((rd f (x:Int)).toNat:Nat):Int)=rd f (x:Int) by omega,(E x hx).2]at a2;omega
theorem BL(p:List Int)(n:Nat)(hp:inR n p):∀(f:Nat) (s:List Bool) (c:List Int) (a:Int),s.length=n->0<=a->a<n->(cw p f s c a).2.length+fresh (cw p f s c a).1<=c.length+fresh s
 |0,s,c,a,hs,h0,h1=>Nat.le_refl _
 |f+1,s,c,a,hs,h0,h1=>by
  simp only[cw];by_cases e:cP false s a=true
  · simp only[e,if_true]
    exact Nat.le_refl _
  · simp only[e,Bool.false_eq_true,if_false]
    have h3:s.getD a.toNat false=false:=by rw[<-iH s a h0];simpa using e
    have h4:=nl s a.toNat ac h3;have h5:=hp.2 a.toNat ac;rw[show((a.toNat:Nat):Int)=a by omega]at h5;have ih:=BL p n hp f (s.set a.toNat true) (c++[a]) (rd p a) (by simpa using hs) h5.1 h5.2;rw[List.length_append,List.length_singleton]at ih;omega
theorem vl(p:List Int)(n:Nat)(hp:inR n p):∀i,i<=n->∀l∈(aE p n i).2,1<=l.length/\l.length<=n
 |0,_,l,hl=>by simp[aE]at hl
 |i+1,hi,l,hl=>by
  have ih:=vl p n hp i ac l;simp only[aE]at hl;have hb:=BL p n hp (n+1) (aE p n i).1 [] i (kL p n i) ac ac;have hf:=nY (aE p n i).1;rw[kL]at hf;rw[List.length_nil,Nat.zero_add]at hb;by_cases e:(cw p (n+1) (aE p n i).1 [] (i:Int)).2=[]
  · rw[if_pos e]at hl
    exact ih hl
  · rw[if_neg e,List.mem_append]at hl
    rcases hl with hl|hl
    ·exact ih hl
    · rw[List.mem_singleton.1 hl]
      have:0<(cw p (n+1) (aE p n i).1 [] (i:Int)).2.length:=List.length_pos_iff.2 e;omega
theorem Df(p:List Int)(n:Nat)(h1:1<=n):0<(aE p n n).2.length:=by
 have hm:∀i,1<=i->0<(aE p n i).2.length:=by
  intro i
  induction i with
  |zero=>intro h;omega
  |succ i ih=>
   intro _;simp only[aE];by_cases hi:1<=i
   · have:=ih hi
     split
     ·exact this
     ·rw[List.length_append];omega
   · have:i=0:=ac
     subst this;rw[if_neg (uf p n _ _ (by show ¬(List.replicate n false).getD 0 false=true;rw[List.getD_eq_getElem?_getD,List.getElem?_replicate];split<;>simp))];rw[List.length_append,List.length_singleton];omega
 exact hm n h1
theorem zk:∀(d:Nat) (i j:Int) (l:List Int),l.length<=1048576->0<=i->j<l.length->i<=1048576-> -1<=j->j-i<=d->∃r,Ev (fun k=>eu.l0 k l i j) r/\r.Perm l
 |0,i,j,l,hl,h0,h1,h2,h3,hd=>by
  refine⟨l,Ev.s ?_,List.Perm.refl _⟩;simp only[eu.l0,show ¬i<j by omega,if_false];exact Ev.const rfl
 |d+1,i,j,l,hl,h0,h1,h2,h3,hd=>by
  by_cases hij:i<j
  · obtain⟨r,r1,r2⟩:=zk d (i+1) (j-1) ((l.set i.toNat (rd l j)).set j.toNat (rd l i)) (by simpa using hl) ac (by simp only[List.length_set];omega) ac ac ac
    have b:((l.set i.toNat (rd l j)).set j.toNat (rd l i)).Perm l:=by
     have hi:i.toNat<l.length:=ac;have hj:j.toNat<l.length:=ac;have e1:rd l i=l[i.toNat]:=by have:=dY l i.toNat hi;rwa [show((i.toNat:Nat):Int)=i by omega]at this
     have e2:rd l j=l[j.toNat]:=by have:=dY l j.toNat hj;rwa [show((j.toNat:Nat):Int)=j by omega]at this
     rw[e1,e2];exact List.set_set_perm hi hj
    refine⟨r,Ev.s ?_,r2.trans b⟩;simp only[eu.l0,hij,show 0<=j by omega,h1,h0,show i<(l.length:Int) by omega,if_true,w64 (x:=i+1) ac ac,w64 (x:=j-1) ac ac];exact r1
  · refine⟨l,Ev.s ?_,List.Perm.refl _⟩
    simp only[eu.l0,hij,if_false];exact Ev.const rfl
theorem Iw(l:List Int)(hl:l.length<=1048576):∃r,Ev (fun k=>eu.f k l) r/\r.Perm l:=by
 obtain⟨r,r1,r2⟩:=zk l.length 0 ((l.length:Int)-1) l hl ac ac ac ac ac;refine⟨r,?_,r2⟩;unfold eu.f;rw[w64 ac ac];exact r1
def dX(C:List (List Int)):List Int:=C.map fun l=>(l.length:Int)
theorem DI(C:List (List Int))(i:Nat)(h:i<C.length):dX (C.take (i+1))=dX (C.take i)++[((ak C (i:Int)).length:Int)]:=by
 unfold dX ak;rw[List.take_succ_eq_append_getElem h,List.map_append,Int.toNat_natCast,List.getD_eq_getElem?_getD,List.getElem?_eq_getElem h];rfl
theorem Cg(C:List (List Int))(hC:C.length<=1048576)(hp:0<C.length):∃r,r.Perm (dX C)/\∀(d i:Nat),C.length-i=d->i<=C.length->Ev (fun k=>gA.l0 k (dX (C.take i)) C C.length i) r:=by
 have b:(dX C).length=C.length:=by simp[dX]
 have hs:((dX C).mergeSort fun x y=>decide (x<=y)).length=C.length:=by rw[List.length_mergeSort,b]
 obtain⟨r,r1,r2⟩:=Iw ((dX C).mergeSort fun x y=>decide (x<=y)) ac;refine⟨r,r2.trans (List.mergeSort_perm _ _),?_⟩;intro d
 induction d with
 |zero=>
  intro i hd hi;have e:i=C.length:=ac;rw[e,List.take_length];refine Ev.s ?_
  have c:nC.f (dX C)=some ((dX C).mergeSort fun x y=>decide (x<=y)):=by
   unfold nC.f;rw[if_pos ⟨ac,ac⟩]
  simp only[gA.l0,show ¬(C.length:Int)<(C.length:Int) by omega,if_false,c,Option.bind_some];exact Ev.bind r1 (Ev.const rfl)
 |succ d ih=>
  intro i hd hi;have h:=ih (i+1) ac ac;rw[DI C i ac]at h;have hlt:(dX (C.take i)).length<17592186044416:=by simp only[dX,List.length_map,List.length_take];omega
  refine Ev.s ?_;simp only[gA.l0,show(i:Int)<(C.length:Int) by omega,show(0:Int)<=(i:Int) by omega,hlt,if_true,cM (show i<4611686018427387904 by omega)];exact h
def gz(r:List Int):Bool:=r.all fun x=>decide (x=4)
theorem zm(r:List Int)(i:Nat)(h:i<r.length):gz (r.drop i)=(decide (rd r i=4)&&gz (r.drop (i+1))):=by
 unfold gz;rw[List.drop_eq_getElem_cons h,List.all_cons,dY r i h]
def ic(C:List (List Int)):Nat->List Int
 |0=>[]
 |d+1=>List.replicate (C.countP fun l=>decide (l.length=d+1)) ((d+1:Nat):Int)++ic C d
theorem vq(C:List (List Int))(x:Int):∀d,x∈ic C d↔∃l∈C,1<=l.length/\l.length<=d/\x=(l.length:Int)
 |0=>by
  simp only[ic,List.not_mem_nil,false_iff];rintro⟨l,_,h1,h2,_⟩;omega
 |d+1=>by
  simp only[ic,List.mem_append,List.mem_replicate,vq C x d];constructor
  · rintro(⟨h,rfl⟩|⟨l,hl,h1,h2,rfl⟩)
    · obtain⟨l,hl,e⟩:=List.countP_pos_iff.1 (Nat.pos_of_ne_zero h)
      have e:=of_decide_eq_true e;exact⟨l,hl,ac,ac,by rw[e]⟩
    ·exact⟨l,hl,h1,ac,rfl⟩
  · rintro⟨l,hl,h1,h2,rfl⟩
    by_cases e:l.length=d+1
    ·exact .inl ⟨Nat.ne_of_gt (List.countP_pos_iff.2 ⟨l,hl,decide_eq_true e⟩),by rw[e]⟩
    ·exact .inr ⟨l,hl,h1,ac,rfl⟩
theorem vv(C:List (List Int)):∀d,(ic C d).length<=d*C.length
 |0=>by simp[ic]
 |d+1=>by
  have ih:=vv C d;have:=List.countP_le_length (p:=fun l:List Int=>decide (l.length=d+1)) (l:=C);simp only[ic,List.length_append,List.length_replicate];rw[Nat.succ_mul];omega
theorem wb(C:List (List Int))(hC:C.length<=12)(n:Nat)(v:Nat)(hv:v<=12)(r:List Int):∀(d i:Nat) (b:List Int),C.length-i=d->i<=C.length->b.length+d<=1000->
 Ev (fun k=>dT.l0 k (b++List.replicate ((C.drop i).countP fun l=>decide (l.length=v)) (v:Int)) C (wrap64 ((v:Int)-1))) r->Ev (fun k=>dT.l1 k b C v i) r
 |0,i,b,hd,hi,ha,h=>by
  refine Ev.s ?_;rw[List.drop_eq_nil_of_le ac]at h;simp only[List.countP_nil,List.replicate_zero,List.append_nil]at h;simp only[dT.l1,show ¬(i:Int)<(C.length:Int) by omega,if_false];exact h
 |d+1,i,b,hd,hi,ha,h=>by
  have hlt:i<C.length:=ac;have c:ak C (i:Int)=C[i]:=by unfold ak;rw[Int.toNat_natCast,List.getD_eq_getElem?_getD,List.getElem?_eq_getElem hlt];rfl
  rw[List.drop_eq_getElem_cons hlt,List.countP_cons]at h;refine Ev.s ?_;simp only[dT.l1,show(i:Int)<(C.length:Int) by omega,show(0:Int)<=(i:Int) by omega,c,if_true,cM (show i<4611686018427387904 by omega)];by_cases e:C[i].length=v
  · simp only[e,decide_true,if_true,show b.length<17592186044416 by omega]at h ⊢
    refine wb C hC n v hv r d (i+1) (b++[(v:Int)]) ac ac (by rw[List.length_append,List.length_singleton];omega) ?_;rw[List.append_assoc,List.singleton_append,<-List.replicate_succ];exact h
  · simp only[e,decide_false,Bool.false_eq_true,if_false,Nat.add_zero]at h
    simp only[show ¬((C[i].length:Nat):Int)=(v:Int) by omega,if_false];exact wb C hC n v hv r d (i+1) b ac ac ac h
theorem tK(C:List (List Int))(hC:C.length<=12):∀(d:Nat) (b:List Int),d<=12->b.length+12*d<=500->Ev (fun k=>dT.l0 k b C (d:Int)) (b++ic C d)
 |0,b,hd,ha=>by
  refine Ev.s ?_;simp only[dT.l0,ic,List.append_nil,show ¬((0:Nat):Int)>0 by omega,if_false];exact Ev.const rfl
 |d+1,b,hd,ha=>by
  have hc:=List.countP_le_length (p:=fun l:List Int=>decide (l.length=d+1)) (l:=C);have ih:=tK C hC d (b++List.replicate (C.countP fun l=>decide (l.length=d+1)) ((d+1:Nat):Int)) ac (by rw[List.length_append,List.length_replicate];omega);refine Ev.s ?_;simp only[dT.l0,show((d+1:Nat):Int)>0 by omega,if_true];refine wb C hC 0 (d+1) hd _ C.length 0 b ac ac ac ?_;rw[List.drop_zero,w64 (x:=((d+1:Nat):Int)-1) ac ac,show((d+1:Nat):Int)-1=(d:Int) by omega];rw[List.append_assoc]at ih;exact ih
theorem Cr(r s:List Int)(h:∀x,x∈r↔x∈s):gz r=gz s:=by
 unfold gz;rw[Bool.eq_iff_iff,List.all_eq_true,List.all_eq_true];exact⟨fun z x hx=>z x ((h x).2 hx),fun z x hx=>z x ((h x).1 hx)⟩
theorem wF(r:List Int)(hr:r.length<=1048576):∀(d i:Nat),r.length-i=d->i<=r.length->Ev (fun k=>fM.l0 k r r.length i) (gz (r.drop i))
 |0,i,hd,hi=>by
  refine Ev.s ?_;simp only[fM.l0,show ¬(i:Int)<(r.length:Int) by omega,if_false];rw[List.drop_eq_nil_of_le ac];exact Ev.const rfl
 |d+1,i,hd,hi=>by
  have ih:=wF r hr d (i+1) ac ac;rw[zm r i ac];refine Ev.s ?_;simp only[fM.l0,show(i:Int)<(r.length:Int) by omega,show(0:Int)<=(i:Int) by omega,if_true,cM (show i<4611686018427387904 by omega)];by_cases h:rd r i=4
  · simp only[h,if_true,decide_true,Bool.true_and]
    exact ih
  · simp only[h,if_false,decide_false,Bool.false_and]
    exact Ev.const rfl
theorem wD(r:List Int)(hr:r.length<=1048576):∀(d i:Nat),r.length-i=d->i<=r.length->Ev (fun k=>gm.l0 k r i) (gz (r.drop i))
 |0,i,hd,hi=>by
  refine Ev.s ?_;simp only[gm.l0,show ¬(i:Int)<(r.length:Int) by omega,if_false];rw[List.drop_eq_nil_of_le ac];exact Ev.const rfl
 |d+1,i,hd,hi=>by
  have ih:=wD r hr d (i+1) ac ac;rw[zm r i ac];refine Ev.s ?_;simp only[gm.l0,show(i:Int)<(r.length:Int) by omega,show(0:Int)<=(i:Int) by omega,if_true,cM (show i<4611686018427387904 by omega)];by_cases h:rd r i=4
  · simp only[h,if_true,decide_true,Bool.true_and]
    exact ih
  · simp only[h,if_false,decide_false,Bool.false_and]
    exact Ev.const rfl
theorem qH(a b c:Int):rd [a,b,c] 0=a/\rd [a,b,c] 1=b/\rd [a,b,c] 2=c/\([a,b,c]:List Int).length=3:=⟨rfl,rfl,rfl,rfl⟩
theorem Gg(t f:List Int)(ht:t.length<=1048576)(hf:f.length<=1048576):∃r:Bool,Ev (fun k=>kr.f k t f) r/\Ev (fun k=>fS.f k t f) r:=by
 obtain⟨b,b1,b2,b3⟩:=mB t f ht hf;unfold kr.f fS.f;cases b with
 |false=>
  refine⟨false,?_,?_⟩
  · refine Ev.bind b1 ?_
    simp only[Bool.false_eq_true,if_false];exact Ev.const rfl
  · refine Ev.bind (a:=false) ?_ ?_
    · unfold fM.f
      refine Ev.bind b2 ?_;simp only[Bool.false_eq_true,if_false];exact Ev.const rfl
    · simp only[Bool.false_eq_true,if_false]
      exact Ev.const rfl
 |true=>
  obtain⟨pt,pf,N,E,J⟩:=b3.1 rfl;have j:=iY t pt;have v:inR t.length f:=by have:=iY f pf;rwa [<-N]at this
  have hn:t.length<=12/\1<=t.length:=⟨pt.2.1,pt.1⟩;have hm:=jf t.length f t v j;have c:=vl _ t.length hm t.length (Nat.le_refl _);have G:=nv (aX f t t.length) t.length t.length;have A:=Df (aX f t t.length) t.length hn.2;have C:=ie f t t.length
  have u:Ev (fun k=>gq.f k t f) (aX f t t.length):=by
   unfold gq.f;exact Ev.bind (pE t.length ac f t v j) (Ev.const rfl)
  have e:Ev (fun k=>dJ.f k f t) (aX f t t.length):=ma t.length ac f t v j;have o:=tz (aX f t t.length) t.length ac hm;have s:=oR (aX f t t.length) t.length ac hm;have z:=tz t t.length ac j;have q:=oR t t.length ac j;obtain⟨r,r1,r2⟩:=Cg (aE (aX f t t.length) t.length t.length).2 ac A
  have F:Ev (fun k=>gA.f k (aX f t t.length)) r:=by
   unfold gA.f;refine Ev.bind s ?_;exact r2 _ 0 rfl ac
  have B:r.length<=1048576:=by rw[r1.length_eq];simp only[dX,List.length_map];omega
  have w:Ev (fun k=>dT.f k (aX f t t.length)) (ic (aE (aX f t t.length) t.length t.length).2 t.length):=by
   unfold dT.f;refine Ev.bind o ?_;rw[C];have:=tK (aE (aX f t t.length) t.length t.length).2 ac t.length [] ac (by simp only[List.length_nil];omega);exact this
  have y:(ic (aE (aX f t t.length) t.length t.length).2 t.length).length<=1048576:=by
   have h:=vv (aE (aX f t t.length) t.length t.length).2 t.length;have:t.length*(aE (aX f t t.length) t.length t.length).2.length<=12*12:=Nat.mul_le_mul hn.1 ac;omega
  have h4:gz r=gz (ic (aE (aX f t t.length) t.length t.length).2 t.length):=Cr _ _ fun x=>by
   rw[r1.mem_iff,vq];unfold dX;rw[List.mem_map];constructor
   · rintro⟨l,hl,rfl⟩
     exact⟨l,hl,(c l hl).1,(c l hl).2,rfl⟩
   · rintro⟨l,hl,_,_,rfl⟩
     exact⟨l,hl,rfl⟩
  have hq:Ev (fun k=>fM.f k t f) (gz r):=by
   unfold fM.f;refine Ev.bind b2 ?_;simp only[if_true];refine Ev.bind e ?_;refine Ev.bind F ?_;exact wF r B r.length 0 ac ac
  have hs:Ev (fun k=>gm.f k t f) (gz r):=by
   unfold gm.f;refine Ev.bind u ?_;refine Ev.bind w ?_;rw[h4];exact wD _ y _ 0 rfl ac
  by_cases ha:gz r=true
  · rw[ha]at hq hs
    obtain⟨g,m,H⟩:∃g:Int,Ev (fun k=>ng.f k t f) g/\Ev (fun k=>gp.f k t f) g:=by
     refine⟨wrap64 (Int.tdiv (wrap64 ((wrap64 ((wrap64 (2-((aE t t.length t.length).2.length:Int)))+(wrap64 ((f.length:Int)/2))))-((aE (aX f t t.length) t.length t.length).2.length:Int))) 2),?_,?_⟩;rotate_left
     · unfold gp.f
       refine Ev.bind q ?_;refine Ev.bind e ?_;exact Ev.bind s (Ev.const rfl)
     · unfold ng.f
       refine Ev.bind (a:=[((aE t t.length t.length).2.length:Int),wrap64 ((f.length:Int)/2),((aE (aX f t t.length) t.length t.length).2.length:Int)]) ?_ ?_
       · unfold hZ.f
         refine Ev.bind z ?_;refine Ev.bind u ?_;exact Ev.bind o (Ev.const rfl)
       · simp only[(qH _ _ _).1,(qH _ _ _).2.1,(qH _ _ _).2.2.1,(qH _ _ _).2.2.2,show(0:Int)<((3:Nat):Int) by decide,show(1:Int)<((3:Nat):Int) by decide,show(2:Int)<((3:Nat):Int) by decide,if_true]
         exact⟨0,fun _ _=>rfl⟩
    refine⟨g==0,?_,?_⟩
    · refine Ev.bind b1 ?_
      simp only[if_true];refine Ev.bind hs ?_;simp only[if_true];exact Ev.bind m (Ev.const rfl)
    · refine Ev.bind hq ?_
      simp only[if_true];exact Ev.bind H (Ev.const rfl)
  · rw[Bool.not_eq_true]at ha
    rw[ha]at hq hs;refine⟨false,?_,?_⟩
    · refine Ev.bind b1 ?_
      simp only[if_true];refine Ev.bind hs ?_;simp only[Bool.false_eq_true,if_false];exact Ev.const rfl
    · refine Ev.bind hq ?_
      simp only[Bool.false_eq_true,if_false];exact Ev.const rfl
theorem vD(t f:List Int)(n:Nat)(hn:n<=1048576)(j:inR n t)(v:inR n f):Ev (fun k=>gq.f k t f) (aX f t n)/\Ev (fun k=>dJ.f k f t) (aX f t n):=
 ⟨by unfold gq.f;exact Ev.bind (pE n hn f t v j) (Ev.const rfl),ma n hn f t v j⟩
theorem Gm(t f:List Int)(h:isMap t f):∃q:Bool,Ev (fun k=>gm.f k t f) q/\Ev (fun k=>fM.f k t f) q/\(q=true↔∀l∈(aE (aX f t t.length) t.length t.length).2,l.length=4):=by
 obtain⟨pt,pf,N,E,J⟩:=id h;have j:=iY t pt;have v:inR t.length f:=by have:=iY f pf;rwa [<-N]at this
 have hn:t.length<=12/\1<=t.length:=⟨pt.2.1,pt.1⟩;have hm:=jf t.length f t v j;have c:=vl _ t.length hm t.length (Nat.le_refl _);have G:=nv (aX f t t.length) t.length t.length;have A:=Df (aX f t t.length) t.length hn.2;have C:=ie f t t.length;obtain⟨u,e⟩:=vD t f t.length ac j v;have o:=tz (aX f t t.length) t.length ac hm;have s:=oR (aX f t t.length) t.length ac hm;obtain⟨b,_,b2,b3⟩:=mB t f ac ac;rw[b3.2 h]at b2;obtain⟨r,r1,r2⟩:=Cg (aE (aX f t t.length) t.length t.length).2 ac A
 have F:Ev (fun k=>gA.f k (aX f t t.length)) r:=by
  unfold gA.f;refine Ev.bind s ?_;exact r2 _ 0 rfl ac
 have B:r.length<=1048576:=by rw[r1.length_eq];simp only[dX,List.length_map];omega
 have w:Ev (fun k=>dT.f k (aX f t t.length)) (ic (aE (aX f t t.length) t.length t.length).2 t.length):=by
  unfold dT.f;refine Ev.bind o ?_;rw[C];have:=tK (aE (aX f t t.length) t.length t.length).2 ac t.length [] ac (by simp only[List.length_nil];omega);exact this
 have y:(ic (aE (aX f t t.length) t.length t.length).2 t.length).length<=1048576:=by
  have h:=vv (aE (aX f t t.length) t.length t.length).2 t.length;have:t.length*(aE (aX f t t.length) t.length t.length).2.length<=12*12:=Nat.mul_le_mul hn.1 ac;omega
 have h4:gz r=gz (ic (aE (aX f t t.length) t.length t.length).2 t.length):=Cr _ _ fun x=>by
  rw[r1.mem_iff,vq];unfold dX;rw[List.mem_map];constructor
  · rintro⟨l,hl,rfl⟩
    exact⟨l,hl,(c l hl).1,(c l hl).2,rfl⟩
  · rintro⟨l,hl,_,_,rfl⟩
    exact⟨l,hl,rfl⟩
 refine⟨gz r,?_,?_,?_⟩
 · unfold gm.f
   refine Ev.bind u ?_;refine Ev.bind w ?_;rw[h4];exact wD _ y _ 0 rfl ac
 · unfold fM.f
   refine Ev.bind b2 ?_;simp only[if_true];refine Ev.bind e ?_;refine Ev.bind F ?_;exact wF r B r.length 0 ac ac
 · unfold gz
   rw[List.all_eq_true];constructor
   · intro z l hl
     have:=z (l.length:Int) (r1.mem_iff.2 (List.mem_map.2 ⟨l,hl,rfl⟩));have:=of_decide_eq_true this;omega
   · intro z x hx
     obtain⟨l,hl,rfl⟩:=List.mem_map.1 (r1.mem_iff.1 hx);exact decide_eq_true (by have:=z l hl;omega)
def dD(p:List Int)(n:Nat):Nat->List Int
 |0=>List.replicate n 0
 |i+1=>(dD p n i).set (rd p i).toNat i
theorem ol(p:List Int)(n:Nat):∀i,(dD p n i).length=n
 |0=>by simp[dD]
 |i+1=>by simp[dD,ol p n i]
theorem xG(p:List Int)(n:Nat):∀(i:Nat),i<=n->∀j:Nat,j<n->0<=rd (dD p n i) j/\rd (dD p n i) j<n
 |0,_,j,hj=>by
  have:rd (dD p n 0) j=0:=by
   rw[dY _ j (by simp[dD];exact hj)];simp[dD]
  omega
 |i+1,hi,j,hj=>by
  have ih:=xG p n i ac j hj;simp only[dD];by_cases e:(rd p i).toNat=j
  · subst e
    rw[iE _ _ _ (by rw[ol];exact hj)];omega
  · rw[gV _ _ _ _ e]
    exact ih
theorem oy(p:List Int)(n:Nat):inR n (dD p n n):=⟨ol p n n,xG p n n (Nat.le_refl _)⟩
theorem po(p:List Int)(n:Nat)(hp:inR n p)(inj:∀i j:Nat,i<n->j<n->rd p i=rd p j->i=j):∀(i:Nat),i<=n->∀j:Nat,j<i->rd (dD p n i) (rd p j)=j
 |i+1,hi,j,hj=>by
  have c:=hp.2 j ac;have b:=hp.2 i ac;simp only[dD];by_cases e:j=i
  · subst e
    have h2:=iE (dD p n j) (rd p j).toNat j (by rw[ol];omega)
    rwa [show((rd p j).toNat:Int)=rd p j by omega]at h2
  · have B:(rd p i).toNat≠(rd p j).toNat:=fun h=>e (inj j i ac ac ac)
    have h2:=gV (dD p n i) (rd p i).toNat (rd p j).toNat i B;rw[show((rd p j).toNat:Int)=rd p j by omega]at h2;rw[h2];exact po p n hp inj i ac j ac
theorem xM(n:Nat)(hn:n<=1048576)(p:List Int)(hp:inR n p):∀(d i:Nat),n-i=d->i<=n->Ev (fun k=>gL.l0 k p (dD p n i) i) (dD p n n)
 |0,i,hd,hi=>by
  have:i=n:=ac;subst this;refine Ev.s ?_;simp only[gL.l0,hp.1,show ¬(i:Int)<(i:Int) by omega,if_false];exact Ev.const rfl
 |d+1,i,hd,hi=>by
  have h1:=hp.2 i ac;refine Ev.s ?_;simp only[gL.l0,hp.1,ol,show(i:Int)<(n:Int) by omega,show(0:Int)<=(i:Int) by omega,h1.1,h1.2,if_true];rw[cM ac];exact xM n hn p hp d (i+1) ac ac
theorem xi(n:Nat)(hn:n<=1048576)(p:List Int)(hp:inR n p):Ev (fun k=>gL.f k p) (dD p n n):=by
 unfold gL.f;have h1:n<=35184372088832:=ac;have h2:(0:Int)<=(n:Int):=ac;simp only[hp.1,Int.toNat_natCast,h1,h2,if_true];exact xM n hn p hp n 0 ac ac
theorem yx(n:Nat)(hn:n<=1048576)(p:List Int)(hp:inR n p):∀(d i:Nat),n-i=d->i<=n->Ev (fun k=>fW.l0 k (dD p n i) p n i) (dD p n n)
 |0,i,hd,hi=>by
  have:i=n:=ac;subst this;refine Ev.s ?_;simp only[fW.l0,show ¬(i:Int)<(i:Int) by omega,if_false];exact Ev.const rfl
 |d+1,i,hd,hi=>by
  have h1:=hp.2 i ac;refine Ev.s ?_;simp only[fW.l0,hp.1,ol,show(i:Int)<(n:Int) by omega,show(0:Int)<=(i:Int) by omega,h1.1,h1.2,if_true];rw[cM ac];exact yx n hn p hp d (i+1) ac ac
theorem Cs(n:Nat)(hn:n<=1048576)(p:List Int)(hp:inR n p):Ev (fun k=>fW.f k p) (dD p n n):=by
 unfold fW.f;have h1:n<=35184372088832:=ac;have h2:(0:Int)<=(n:Int):=ac;simp only[hp.1,Int.toNat_natCast,h1,h2,if_true];exact yx n hn p hp n 0 ac ac
end Go.Proofs.Ytlpbalebodlipaa.PL
namespace Go.Proofs.Ytlpbalebodlipaa.PL
open Go.RowKit Go.Proofs.YtlpbalebodlipaaW.PrintWords Go.Proofs.YtlpbalebodlipaaW.PrintLast Go.Proofs.YtlpbalebodlipaaW.PrintMore
attribute [local go_sem] jp jv jl jo jC jy ji je
set_option linter.unusedVariables false
set_option linter.unusedSimpArgs false
def Gt.T9:Bool×List (List Nat×List Nat):=(true,[([],[]),([],[]),([0,1],[0,1]),([2],[2]),([3],[3]),([],[]),([],[]),([6],[6]),([],[]),([7,8],[7,8]),([9],[9]),([5,10],[5,10]),([11],[11]),([12],[12]),([4,13],[4,13])])
def Gt.B9:List Nat:=[0,0,3,7,15,0,0,64,0,448,960,2016,4064,8160,16383]
section
variable {P:Program} {D:Array Oper} {Q:Exit->Act->World->Prop} {md:Region.Mode} {S:World->Prop} {ds:List Nat}
end
def vC.T8:Bool×List (List Nat×List Nat):=(true,[([],[]),([],[]),([0,1],[0,1]),([2],[2]),([3],[3]),([],[]),([],[]),([5,6],[5,6]),([7],[7]),([8],[8]),([4,9],[4,9])])
def vC.B8:List Nat:=[0,0,3,7,15,0,0,96,224,480,1023]
def vC.T14:Bool×List (List Nat×List Nat):=(true,[([],[]),([0],[0]),([],[]),([2],[2]),([1,3],[1,3]),([],[]),([5],[5]),([6,4],[6]),([4,7,0,1,2,3,4],[4]),([7,8,0,1,2,3,4,5,6,7,8],[7])])
def vC.B14:List Nat:=[0,1,0,4,15,0,32,127,255,511]
end Go.Proofs.Ytlpbalebodlipaa.PL
set_option linter.unusedVariables false
set_option linter.unusedSimpArgs false
namespace Go.Proofs.Ytlpbalebodlipaa.PL
open Go.RowKit Go.Proofs.YtlpbalebodlipaaW.PrintWords Go.Proofs.YtlpbalebodlipaaW.PrintLast Go.Proofs.YtlpbalebodlipaaW.PrintMore
def nmE(g:List Int):Nat->Nat
 |0=>0
 |i+1=>if Int.tmod (rd g i) 2=0 then nmE g i+1 else nmE g i
theorem CR(g:List Int)(i:Nat):∀d,nmE g i<=nmE g (i+d)
 |0=>Nat.le_refl _
 |d+1=>by
  have:=CR g i d;rw[<-Nat.add_assoc];simp only[nmE];split<;>omega
theorem yc{t f:List Int}(h:isMap t f):dE t f t.length:=by
 obtain⟨pt,pf,N,E,J⟩:=h;refine⟨pt.2.1,pt.1,iY t pt,fun i j hi hj e=>?_,by have:=iY f pf;rwa [<-N]at this,by rw[N];exact E,by rw[N];exact J⟩;refine Classical.byContradiction fun B=>?_
 rcases Nat.lt_or_gt_of_ne B with q|q
 ·exact(pt.2.2 j hj).2.2 i q e
 ·exact(pt.2.2 i hi).2.2 j q e.symm
def qN(t fc bk nm:List Int)(i:Nat):Int:=rd nm (rd bk (rd fc (rd fc (rd t i))))
def jc(g t nm:List Int):Nat->List Int
 |0=>[]
 |i+1=>if Int.tmod (rd g i) 2=0 then jc g t nm i++[rd nm (rd t i)]else jc g t nm i
def jX(g t fc bk nm:List Int):Nat->List Int
 |0=>[]
 |i+1=>if Int.tmod (rd g i) 2=0 then jX g t fc bk nm i++[qN t fc bk nm i]else jX g t fc bk nm i
theorem sQ(g t nm:List Int):∀i,(jc g t nm i).length=nmE g i
 |0=>rfl
 |i+1=>by
  simp only[jc,nmE];split<;>simp[sQ g t nm i]
theorem sV(g t fc bk nm:List Int):∀i,(jX g t fc bk nm i).length=nmE g i
 |0=>rfl
 |i+1=>by
  simp only[jX,nmE];split<;>simp[sV g t fc bk nm i]
theorem Fx(t f:List Int)(ht:t.length<=1048576)(hf:f.length<=1048576):∃r:Bool,Ev (fun k=>kr.f k t f) r/\Ev (fun k=>fS.f k t f) r/\(r=true->isMap t f/\dE t f t.length/\(∀l∈(aE (aX f t t.length) t.length t.length).2,l.length=4)/\2*(aE t t.length t.length).2.length+2*(aE (aX f t t.length) t.length t.length).2.length=4+t.length):=by
 obtain⟨r,r1,r2⟩:=Gg t f ht hf;refine⟨r,r1,r2,fun hr=>?_⟩;subst hr;obtain⟨b,b1,b2,b3⟩:=mB t f ht hf;cases b with
 |false=>
  have:Ev (fun k=>fS.f k t f) false:=by
   unfold fS.f;refine Ev.bind (a:=false) ?_ ?_
   · unfold fM.f
     refine Ev.bind b2 ?_;simp only[Bool.false_eq_true,if_false];exact Ev.const rfl
   · simp only[Bool.false_eq_true,if_false]
     exact Ev.const rfl
  exact absurd (Ev.uniq r2 this) ay
 |true=>
  have hm:=b3.1 rfl;have H:=yc hm;obtain⟨q,q1,q2,q3⟩:=Gm t f hm;cases q with
  |false=>
   have:Ev (fun k=>fS.f k t f) false:=by
    unfold fS.f;refine Ev.bind q2 ?_;simp only[Bool.false_eq_true,if_false];exact Ev.const rfl
   exact absurd (Ev.uniq r2 this) ay
  |true=>
   have h4:=q3.1 rfl;refine⟨hm,H,h4,?_⟩;obtain⟨hn,h1,c,hti,j,E,J⟩:=id H;have l2:=j.1;generalize hnn:t.length=n at*;have u:=oB f n E;have ep:=oC t f n c j;have o:=iz t f n c j;have v:=jM t f n c hti j u;have s:=nv t n n;have m:=nv (aX f t n) n n
   have G:Ev (fun k=>gp.f k t f) (wrap64 (Int.tdiv (wrap64 ((wrap64 ((wrap64 (2-((aE t n n).2.length:Int)))+(wrap64 ((f.length:Int)/2))))-((aE (aX f t n) n n).2.length:Int))) 2)):=by
    unfold gp.f;refine Ev.bind (oR t n ac c) ?_;refine Ev.bind (ma n ac f t j c) ?_;refine Ev.bind (oR (aX f t n) n ac (jf n f t j c)) ?_;exact Ev.const rfl
   have hP:Cl n (Reach [t,f] n) 1:=⟨[0],ay,fun x=>by
    rw[List.mem_singleton];constructor
    ·rintro rfl;exact⟨ac,fun i hi=>absurd hi ac⟩
    · rintro⟨h1,h2⟩
      by_cases e:x=0
      ·exact e
      ·exact absurd (J 0 x ac h1) (h2 0 ac),rfl⟩
   obtain⟨K,g,k1,k2⟩:=Fp t f n c hti j E 1 _ _ hP (rN t n c hti) (rN _ n o v);rw[<-ep]at k2;have w1:wrap64 (2-((aE t n n).2.length:Int))=2-((aE t n n).2.length:Int):=w64 ac ac;have w2:wrap64 ((f.length:Int)/2)=(K:Int):=by rw[w64 ac ac];omega
   have w3:wrap64 (2-((aE t n n).2.length:Int)+(K:Int))=2-((aE t n n).2.length:Int)+(K:Int):=w64 ac ac;have w4:wrap64 (2-((aE t n n).2.length:Int)+(K:Int)-((aE (aX f t n) n n).2.length:Int))=2*(g:Int):=by rw[w64 ac ac];omega
   have w5:Int.tdiv (2*(g:Int)) 2=g:=by rw[Int.mul_comm];exact Int.mul_tdiv_cancel _ af
   rw[w1,w2,w3,w4,w5,w64 (x:=(g:Int)) ac ac]at G
   have:Ev (fun k=>fS.f k t f) ((g:Int)==0):=by
    unfold fS.f;refine Ev.bind q2 ?_;simp only[if_true];exact Ev.bind G (Ev.const rfl)
   have e:=Ev.uniq r2 this;have:(g:Int)=0:=eq_of_beq e.symm;omega
def nf(t:List Int)(d:Nat):Nat:=(rd t (d:Int)).toNat
theorem fA{n:Nat}{t:List Int}(ht:inR n t){d:Nat}(h:d<n):rd t (d:Int)=(nf t d:Int)/\nf t d<n:=by
 have:=ht.2 d h;unfold nf;omega
theorem tO{n:Nat}{t:List Int}(ht:inR n t):∀(k x:Nat),x<n->itr t k (x:Int)=(it (nf t) k x:Int)
 |0,x,h=>rfl
 |k+1,x,h=>by
  show itr t k (rd t (x:Int))=(it (nf t) k (nf t x):Int);rw[(fA ht h).1];exact tO ht k _ (fA ht h).2
theorem vK{n:Nat}{t:List Int}(ht:inR n t)(hti:bL n t){x y:Nat}(hx:x<n)(h:Reach [t] n x y):∃k,it (nf t) k x=y:=by
 obtain⟨k,hk⟩:=oU t n ht hti x y hx h;refine⟨k+1,?_⟩;have:=tO ht (k+1) x hx;rw[show itr t (k+1) (x:Int)=itr t k (rd t (x:Int))from rfl,hk]at this;omega
theorem Ho(t f:List Int)(n:Nat)(H:dE t f n)(h4:∀l∈(aE (aX f t n) n n).2,l.length=4)(hE:2*(aE t n n).2.length+2*(aE (aX f t n) n n).2.length=4+n)
 (a:Nat)(ha:a<n)(g:List Int)(hg:dG t f n a g):Qd n (nf t) (nf f) (nf g):=by
 have st:=fun x hx=>Hb t f n H h4 hE a ha g hg x hx
 obtain⟨hn,h1,ht,hti,hf,E,J⟩:=id H;have T:=fun(d:Nat) (hd:d<n)=>fA ht hd
 have F:=fun(d:Nat) (hd:d<n)=>fA hf hd
 have G:∀d:Nat,d<n->rd g (d:Int)=(nf g d:Int):=fun d hd=>by
  have:=hg.rng d hd;unfold nf;omega
 have ep:=oC t f n ht hf;have o:=iz t f n ht hf;have v:=jM t f n ht hti hf (oB f n E);rw[ep]at h4;obtain⟨_,hp⟩:=ql _ n o v h4
 have sg:∀d:Nat,d<n->rd (cmpL t f n) (d:Int)=(nf t (nf f d):Int):=fun d hd=>by
  rw[eI t f n d hd,(F d hd).1,(T _ (F d hd).2).1]
 have b:∀d:Nat,d<n->nf t (nf f d)<n:=fun d hd=>(T _ (F d hd).2).2
 refine⟨fun x hx=>(T x hx).2,fun x hx=>(F x hx).2,fun x y hx hy e=>?_,fun x hx=>?_,fun x hx=>?_,fun x hx=>?_,fun x hx=>?_,fun x hx h=>?_,fun x hx h=>?_,fun x y hx hy e1 e2=>?_⟩
 ·exact hti x y hx hy (by rw[(T x hx).1,(T y hy).1,e])
 · have:=(E x hx).2
   rw[(F x hx).1,(F _ (F x hx).2).1]at this;omega
 · have:=hg.turn x hx
   rw[(T x hx).1,G _ (T x hx).2,G x hx]at this;omega
 · have:=st x hx
   rw[(F x hx).1,G _ (F x hx).2,G x hx]at this;omega
 · have:=(hp x hx).1
   rw[sg x hx,sg _ (b x hx),sg _ (b _ (b x hx)),sg _ (b _ (b _ (b x hx)))]at this;exact Int.ofNat.inj this
 · obtain⟨y,y1,y2,y3⟩:=hg.back x hx (by rw[G x hx];omega)
   obtain⟨k,hk⟩:=vK ht hti hx y2.symm;refine⟨k,?_⟩;rw[hk];rw[(F y y1).1,G _ (F y y1).2,G x hx]at y3;omega
 · obtain⟨y,y1,y2,y3⟩:=hg.back x hx (by rw[G x hx];omega)
   obtain⟨k,hk⟩:=vK ht hti y1 y2;have e:=lF ht hti g hg.turn y2;rw[G y y1,G x hx]at e;rw[(F y y1).1,G _ (F y y1).2,G x hx]at y3;exact⟨y,y1,ac,k,hk⟩
 · have z1:=hg.zero x hx (by rw[G x hx,e1];rfl)
   have z2:=hg.zero y hy (by rw[G y hy,e2];rfl);exact vK ht hti hx (z1.trans z2.symm)
def jK(g:List Int):List (List Int)->List Int->List Int
 |[],m=>m
 |l::C,m=>jK g C (upd m (lf g (rd l 0) (rd l 1) (rd l 2) (rd l 3)).1 (lf g (rd l 0) (rd l 1) (rd l 2) (rd l 3)).2)
theorem qQ(m:List Int)(A B:Int):(upd m A B).length=m.length:=by simp[upd]
theorem za(m:List Int)(n:Nat)(hm:m.length=n)(A B y:Nat)(hA:A<n)(hB:B<n):rd (upd m (A:Int) (B:Int)) (y:Int)=if y=B then(A:Int)else if y=A then(B:Int)else rd m (y:Int):=by
 unfold upd;rw[Int.toNat_natCast,Int.toNat_natCast,fN _ _ _ _ (by simp;omega),fN _ _ _ _ ac]
theorem zS(g:List Int):∀(C:List (List Int)) (m:List Int),(jK g C m).length=m.length
 |[],m=>rfl
 |l::C,m=>by
  show(jK g C _).length=_;rw[zS g C,qQ]
section
variable {n:Nat} {t f g:List Int} (Q:Qd n (nf t) (nf f) (nf g)) (O:∀d:Nat,d<n->rd g (d:Int)=(nf g d:Int))
include Q O
def pv(t f g:List Int)(x:Nat):Int:=if nf g (nf t (nf f (nf t (nf f (nf t (nf f x))))))+1=nf g x then(Mt (nf t) (nf f) (nf g) x:Int)else-1
theorem HQ(m:List Int)(hm:m.length=n)(x0 x1 x2 x3:Nat)(h0:x0<n)(e1:nf t (nf f x0)=x1)(e2:nf t (nf f x1)=x2)(e3:nf t (nf f x2)=x3)(e4:nf t (nf f x3)=x0)
 (b:x0≠x1)(j:x0≠x2)(e:x0≠x3)(dc:x1≠x2)(cY:x1≠x3)(k:x2≠x3):
 ∃A B:Nat,lf g (x0:Int) (x1:Int) (x2:Int) (x3:Int)=((A:Int),(B:Int))/\A<n/\B<n/\(A=x0\/A=x1\/A=x2\/A=x3)/\(B=x0\/B=x1\/B=x2\/B=x3)/\
  ∀y:Nat,(y=x0\/y=x1\/y=x2\/y=x3)->rd m (y:Int)= -1->rd (upd m (A:Int) (B:Int)) (y:Int)=pv t f g y:=by
 have h1:x1<n:=e1▸Q.tr _ (Q.fr _ h0);have h2:x2<n:=e2▸Q.tr _ (Q.fr _ h1);have h3:x3<n:=e3▸Q.tr _ (Q.fr _ h2);have f0:nf g (nf f x0)=nf g x1:=by rw[<-e1,Q.lt _ (Q.fr _ h0)]
 have f1:nf g (nf f x1)=nf g x2:=by rw[<-e2,Q.lt _ (Q.fr _ h1)]
 have f2:nf g (nf f x2)=nf g x3:=by rw[<-e3,Q.lt _ (Q.fr _ h2)]
 have f3:nf g (nf f x3)=nf g x0:=by rw[<-e4,Q.lt _ (Q.fr _ h3)]
 have s0:=Q.st x0 h0;have s1:=Q.st x1 h1;have s2:=Q.st x2 h2;have s3:=Q.st x3 h3;have g0:=O x0 h0;have g1:=O x1 h1;have g2:=O x2 h2;have g3:=O x3 h3;have c:=rP (rd g x0) (rd g x1) (rd g x2) (rd g x3) ac ac ac ac;rcases c with⟨p1,p2,p3⟩|⟨p1,p2,p3⟩|⟨p1,p2,p3⟩|⟨p1,p2,p3⟩|⟨p1,p2,p3⟩|⟨p1,p2,p3⟩;refine⟨x2,x1,?_,h2,h1,?_,?_,fun y hy hv=>?_⟩;rotate_left 4;refine⟨x1,x3,?_,h1,h3,?_,?_,fun y hy hv=>?_⟩;rotate_left 4;refine⟨x1,x0,?_,h1,h0,?_,?_,fun y hy hv=>?_⟩;rotate_left 4;refine⟨x3,x2,?_,h3,h2,?_,?_,fun y hy hv=>?_⟩;rotate_left 4;refine⟨x0,x2,?_,h0,h2,?_,?_,fun y hy hv=>?_⟩;rotate_left 4;refine⟨x0,x3,?_,h0,h3,?_,?_,fun y hy hv=>?_⟩;rotate_left 4
 all_goals first
  |(simp only[lf,p1,p2,p3,nK,if_true,if_false];done)
  |(simp only[true_or,or_true];done)
  |(rw[za m n hm _ _ y (by assumption) (by assumption),hv]
    unfold pv Mt;rcases hy with rfl|rfl|rfl|rfl<;>simp only[e1,e2,e3,e4,f0,f1,f2,f3]<;>repeat' split
    all_goals (first|omega|exact absurd trivial (by assumption)))
def vI(n:Nat)(t f:List Int)(l:List Int):Prop:=∃x0 x1 x2 x3:Nat,l=[(x0:Int),(x1:Int),(x2:Int),(x3:Int)]/\x0<n/\nf t (nf f x0)=x1/\nf t (nf f x1)=x2/\nf t (nf f x2)=x3/\nf t (nf f x3)=x0/\x0≠x1/\x0≠x2/\x0≠x3/\x1≠x2/\x1≠x3/\x2≠x3
theorem xA:∀(C:List (List Int)) (m:List Int),m.length=n->(∀l∈C,vI n t f l)->C.Pairwise (fun l l'=>∀x:Int,x∈l->x∉l')->(∀y:Nat,(∃l∈C,(y:Int)∈l)->rd m (y:Int)= -1)->
 ∀y:Nat,((∃l∈C,(y:Int)∈l)->rd (jK g C m) (y:Int)=pv t f g y)/\((¬ ∃l∈C,(y:Int)∈l)->rd (jK g C m) (y:Int)=rd m (y:Int))
 |[],m,hm,hC,hd,hv,y=>⟨fun⟨l,hl,_⟩=>absurd hl ay,fun _=>rfl⟩
 |l::C,m,hm,hC,hd,hv,y=>by
  obtain⟨x0,x1,x2,x3,el,h0,e1,e2,e3,e4,b,j,e,dc,cY,k⟩:=hC l ay;obtain⟨A,B,q,hA,hB,iA,iB,c⟩:=HQ Q O m hm x0 x1 x2 x3 h0 e1 e2 e3 e4 b j e dc cY k
  have em:jK g (l::C) m=jK g C (upd m (A:Int) (B:Int)):=by
   show jK g C _=_;rw[el,show rd [(x0:Int),x1,x2,x3] 0=x0 from rfl,show rd [(x0:Int),x1,x2,x3] 1=x1 from rfl,show rd [(x0:Int),x1,x2,x3] 2=x2 from rfl,show rd [(x0:Int),x1,x2,x3] 3=x3 from rfl,q]
  have ml:∀y:Nat,(y:Int)∈l↔(y=x0\/y=x1\/y=x2\/y=x3):=fun y=>by
   rw[el];simp only[List.mem_cons,List.not_mem_nil,or_false];omega
  obtain⟨d1,d2⟩:=List.pairwise_cons.1 hd
  have off:∀y:Nat,(y:Int)∉l->rd (upd m (A:Int) (B:Int)) (y:Int)=rd m (y:Int):=fun y hy=>by
   rw[ml]at hy;rw[za m n hm A B y hA hB,if_neg ac,if_neg ac]
  have ih:=xA C (upd m (A:Int) (B:Int)) (by rw[qQ,hm]) (fun l' L=>hC l' (by simp[L])) d2 (fun y ⟨l',L,hy⟩=>by
   rw[off y (fun z=>d1 l' L _ z hy)];exact hv y ⟨l',by simp[L],hy⟩) y
  rw[em];constructor
  · rintro⟨l',L,hy⟩
    by_cases hc:∃l∈C,(y:Int)∈l
    ·exact ih.1 hc
    · have o:(y:Int)∈l:=by
       rcases List.mem_cons.1 L with rfl|h
       ·exact hy
       ·exact absurd ⟨l',h,hy⟩ hc
      rw[ih.2 hc];exact c y ((ml y).1 o) (hv y ⟨l,ay,o⟩)
  · intro r
    have h1:(y:Int)∉l:=fun z=>r ⟨l,ay,z⟩
    have h2:¬ ∃l∈C,(y:Int)∈l:=fun⟨l',L,z⟩=>r ⟨l',by simp[L],z⟩
    rw[ih.2 h2,off y h1]
end
theorem Hm(p:List Int)(n:Nat)(hp:inR n p)(hi:bL n p):(aE p n n).2.Pairwise (fun l l'=>∀x:Int,x∈l->x∉l'):=by
 obtain⟨reps,r1,r2,r3,r4⟩:=oK p n hp hi n (Nat.le_refl _);rw[List.pairwise_iff_getElem];intro i j hi' F hij x hx T;obtain⟨a,a1,a2,_,_⟩:=tc p n hp hi n (Nat.le_refl _) _ (List.getElem_mem hi')
 have c:0<=x/\x<n:=by
  rw[a2]at hx;obtain⟨k,_,rfl⟩:=List.mem_map.1 hx;exact gH p n hp k _ ac
 have ex:((x.toNat:Nat):Int)=x:=ac;have m1:=(r4 i ac x.toNat ac).1 (by rw[lI _ i hi',ex];exact hx);have m2:=(r4 j ac x.toNat ac).1 (by rw[lI _ j F,ex];exact T);have l1:=(r3 _).1 (List.getElem_mem (show i<reps.length by omega));have l2:=(r3 _).1 (List.getElem_mem (show j<reps.length by omega));have e:=qC (Reach [p] n) (fun _ _ h=>h.symm) _ _ l1.2 l2.2 (m1.trans m2.symm);exact List.pairwise_iff_getElem.1 r2 i j ac ac hij e
theorem vA(s:List Bool)(a y:Nat)(h:a<s.length):(s.set a true).getD y false=if y=a then true else s.getD y false:=by
 rw[List.getD_eq_getElem?_getD,List.getD_eq_getElem?_getD,List.getElem?_set];by_cases e:a=y
 ·subst e;simp[h]
 ·rw[if_neg e,if_neg (fun z=>e z.symm)]
theorem rq(s:List Bool)(y:Nat):cP false s (y:Int)=s.getD y false:=by rw[iH s _ ac,Int.toNat_natCast]
theorem CO(n y:Nat):(List.replicate n false).getD y false=false:=by
 rw[List.getD_eq_getElem?_getD,List.getElem?_replicate];split<;>rfl
structure QTok (t f g M:List Int) (n:Nat):Prop where
 hn:n<=12
 Q:Qd n (nf t) (nf f) (nf g)
 ht:inR n t
 hf:inR n f
 gl:g.length=n
 gr:∀d:Nat,d<n->rd g (d:Int)=(nf g d:Int)/\nf g d<n
 ml:M.length=n
 mv:∀y:Nat,y<n->rd M (y:Int)=pv t f g y
noncomputable def wI(t f g:List Int)(a i:Nat):Nat:=it (bU (nf t) (nf f) (nf g)) i a
def mI(t f g:List Int)(x:Nat):Nat:=Mt (nf t) (nf f) (nf g) x
noncomputable def iP(t f g:List Int)(a i:Nat):Bool:=(List.range i).any fun j=>nf t (wI t f g a j)==mI t f g (nf t (wI t f g a i))
theorem sr(t f g:List Int)(a i:Nat):iP t f g a i=true↔∃j,j<i/\nf t (wI t f g a j)=mI t f g (nf t (wI t f g a i)):=by
 unfold iP;rw[List.any_eq_true];constructor
 · rintro⟨j,h1,h2⟩
   exact⟨j,List.mem_range.1 h1,by simpa using h2⟩
 · rintro⟨j,h1,h2⟩
   exact⟨j,List.mem_range.2 h1,by simpa using h2⟩
noncomputable def dN(t f g:List Int)(a:Nat):Nat->ByteArray
 |0=>(⟨#[]⟩:ByteArray)
 |i+1=>if iP t f g a i=true then dN t f g a i++(⟨#[41]⟩:ByteArray)else dN t f g a i++(⟨#[40]⟩:ByteArray)
noncomputable def stp(t f g:List Int)(a:Nat):Nat->List Int
 |0=>[]
 |i+1=>if iP t f g a i=true then stp t f g a i else stp t f g a i++[(nf g (mI t f g (nf t (wI t f g a i))):Int)-(nf g (nf t (wI t f g a i)):Int)]
theorem rk(t f g:List Int)(a:Nat):∀i,(dN t f g a i).size=i
 |0=>rfl
 |i+1=>by
  unfold dN;split<;>rw[ByteArray.size_append,rk t f g a i]<;>rfl
theorem tl(t f g:List Int)(a:Nat):∀i,(stp t f g a i).length<=i
 |0=>Nat.le_refl _
 |i+1=>by
  have:=tl t f g a i;unfold stp;split
  ·omega
  ·rw[List.length_append,List.length_singleton];omega
section
variable {t f g M:List Int} {n:Nat} (K:QTok t f g M n)
include K
theorem su{h:Nat}(hh:h<n):rd M (nf t h:Int)=if nf g (nf f h)+1=nf g h then(mI t f g (nf t h):Int)else-1:=by
 rw[K.mv _ (K.Q.tr h hh)];unfold pv mI;rw[K.Q.face hh rfl,K.Q.lt h hh]
theorem lK{a:Nat}(ha:Dn n (nf f) (nf g) a)(i:Nat):wI t f g a i<n/\nf t (wI t f g a i)<n/\mI t f g (nf t (wI t f g a i))<n/\rd M (nf t (wI t f g a i):Int)=(mI t f g (nf t (wI t f g a i)):Int)/\
 mI t f g (mI t f g (nf t (wI t f g a i)))=nf t (wI t f g a i)/\FN (nf t) (nf f) (nf g) (mI t f g (nf t (wI t f g a i))) (wI t f g a (i+1)):=by
 have dn:=K.Q.iJ ha i;obtain⟨v,v1,v2,v3,v4,v5⟩:=K.Q.mate dn.1 dn.2;have ok:=(K.Q.pJ dn).2.1;have e1:wI t f g a (i+1)=bU (nf t) (nf f) (nf g) (it (bU (nf t) (nf f) (nf g)) i a):=gY _ _ _;refine⟨dn.1,K.Q.tr _ dn.1,?_,?_,?_,?_⟩
 · show Mt _ _ _ (nf t (it _ i a))<n
   rw[v3];exact K.Q.tr _ v1
 · have e:=su K dn.1
   rw[if_pos dn.2]at e;exact e
 · show Mt _ _ _ (Mt _ _ _ (nf t (it _ i a)))=_
   rw[v3,v4];rfl
 · rw[e1]
   exact ok
theorem yU{a:Nat}(ha:Dn n (nf f) (nf g) a){i j:Nat}(hij:i<j)(hj:j<n/2):nf t (wI t f g a i)≠nf t (wI t f g a j):=by
 intro e;exact K.Q.once ha i j hij ac (K.Q.ti _ _ (lK K ha i).1 (lK K ha j).1 e)
theorem Fz{a:Nat}(ha:Dn n (nf f) (nf g) a){i:Nat}(hi:i<n/2):(∃j,j<i/\iP t f g a j=false/\(nf t (wI t f g a i)=nf t (wI t f g a j)\/nf t (wI t f g a i)=mI t f g (nf t (wI t f g a j))))↔iP t f g a i=true:=by
 rw[sr];constructor
 · rintro⟨j,h1,h2,h3|h3⟩
   ·exact absurd h3.symm (yU K ha h1 hi)
   ·exact⟨j,h1,by rw[h3,(lK K ha j).2.2.2.2.1]⟩
 · rintro⟨j,h1,h2⟩
   have h3:nf t (wI t f g a i)=mI t f g (nf t (wI t f g a j)):=by rw[h2,(lK K ha i).2.2.2.2.1]
   refine⟨j,h1,?_,Or.inr h3⟩;cases hc:iP t f g a j with
   |false=>rfl
   |true=>
    exfalso;obtain⟨p,p1,p2⟩:=(sr t f g a j).1 hc;exact yU K ha (show p<i by omega) hi (by rw[p2,h3])
theorem EO{x y:Nat}(h:FN (nf t) (nf f) (nf g) x y):x<n->∀(up:List Bool) (N i:Int) (s:ByteArray) (st:List Int) (r:ByteArray×List Int×Bool),
 Ev (fun k=>aZ.l5 k g M up (nf t y:Int) N i t f s st) r->Ev (fun k=>aZ.l5 k g M up (nf t x:Int) N i t f s st) r:=by
 induction h with
 |here h=>exact fun _ _ _ _ _ _ _ h=>h
 | @more x y h1 h2 ih=>
   intro hx up N i s st r hr;have h3:=K.Q.tr _ hx;have e:=su K hx;rw[if_neg ac]at e;refine Ev.s ?_;simp only[aZ.l5,e,K.ml,K.ht.1,(fA K.ht h3).1,show(0:Int)<=(nf t x:Int) by omega,show(nf t x:Int)<(n:Int) by omega,if_true,show(-1:Int)<0 by decide];exact ih h3 up N i s st r hr
theorem tW(a:Nat)(ha:Dn n (nf f) (nf g) a):∀(d i:Nat) (up:List Bool) (x:Nat),n/2-i=d->i<=n/2->up.length=n->
 (∀y,y<n->(up.getD y false=true↔∃j,j<i/\iP t f g a j=false/\(y=nf t (wI t f g a j)\/y=mI t f g (nf t (wI t f g a j)))))->x<n->FN (nf t) (nf f) (nf g) x (wI t f g a i)->
 Ev (fun k=>aZ.l4 k g M up (x:Int) ((n/2:Nat):Int) (i:Int) t f (dN t f g a i) (stp t f g a i)) (dN t f g a (n/2),stp t f g a (n/2),true)
 |d,i,up,x,e,hi,hl,hu,hx,hF=>by
  have hn:=K.hn;by_cases hlt:i<n/2
  · cases d with
    |zero=>omega
    |succ d=>
     obtain⟨s1,s2,s3,s4,s5,s6⟩:=lK K ha i;have sz:=rk t f g a i;have sl:=tl t f g a i;have u:=(hu _ s2).trans (Fz K ha hlt);refine Ev.s ?_;simp only[aZ.l4,K.ht.1,(fA K.ht hx).1,show(i:Int)<((n/2:Nat):Int) by omega,show(0:Int)<=(x:Int) by omega,show(x:Int)<(n:Int) by omega,if_true];refine EO K hF hx _ _ _ _ _ _ ?_;refine Ev.s ?_;by_cases hc:iP t f g a i=true
     · have next:=tW a ha d (i+1) up (mI t f g (nf t (wI t f g a i))) ac ac hl (fun y hy=>by
        rw[hu y hy];constructor
        · rintro⟨j,h1,h2⟩
          exact⟨j,ac,h2⟩
        · rintro⟨j,h1,h2,h3⟩
          refine⟨j,?_,h2,h3⟩;by_cases hj:j=i
          ·rw[hj,hc]at h2;cases h2
          ·omega) s3 s6
       simp only[aZ.l5,K.ml,hl,s4,rq,u.2 hc,sz,show(0:Int)<=(nf t (wI t f g a i):Int) by omega,show(nf t (wI t f g a i):Int)<(n:Int) by omega,if_true,show ¬(mI t f g (nf t (wI t f g a i)):Int)<0 by omega,if_false,show i+1<=9223372036854775807 by omega,cM (show i<4611686018427387904 by omega)];rw[show dN t f g a (i+1)=dN t f g a i++(⟨#[41]⟩:ByteArray) by rw[dN];exact if_pos hc,show stp t f g a (i+1)=stp t f g a i by rw[stp];exact if_pos hc]at next
       exact next
     · have o:up.getD (nf t (wI t f g a i)) false=false:=by
        cases hb:up.getD (nf t (wI t f g a i)) false with
        |false=>rfl
        |true=>exact absurd (u.1 hb) hc
       have next:=tW a ha d (i+1) ((up.set (nf t (wI t f g a i)) true).set (mI t f g (nf t (wI t f g a i))) true) (mI t f g (nf t (wI t f g a i))) ac ac (by simp[hl]) (fun y hy=>by
        rw[vA _ _ _ (by simp;omega),vA _ _ _ ac];by_cases y1:y=mI t f g (nf t (wI t f g a i))
        · rw[if_pos y1]
          exact⟨fun _=>⟨i,ac,by simpa using hc,Or.inr y1⟩,fun _=>rfl⟩
        · rw[if_neg y1]
          by_cases y2:y=nf t (wI t f g a i)
          · rw[if_pos y2]
            exact⟨fun _=>⟨i,ac,by simpa using hc,Or.inl y2⟩,fun _=>rfl⟩
          · rw[if_neg y2,hu y hy]
            constructor
            · rintro⟨j,h1,h2⟩
              exact⟨j,ac,h2⟩
            · rintro⟨j,h1,h2,h3⟩
              by_cases hj:j=i
              · subst hj
                rcases h3 with h3|h3
                ·exact absurd h3 y2
                ·exact absurd h3 y1
              ·exact⟨j,ac,h2,h3⟩) s3 s6
       obtain⟨g1,g2⟩:=K.gr _ s2;obtain⟨g3,g4⟩:=K.gr _ s3;simp only[aZ.l5,K.ml,K.gl,hl,s4,rq,o,sz,g1,g3,Int.toNat_natCast,show(0:Int)<=(nf t (wI t f g a i):Int) by omega,show(nf t (wI t f g a i):Int)<(n:Int) by omega,show(0:Int)<=(mI t f g (nf t (wI t f g a i)):Int) by omega,show(mI t f g (nf t (wI t f g a i)):Int)<(n:Int) by omega,if_true,Bool.false_eq_true,show ¬(mI t f g (nf t (wI t f g a i)):Int)<0 by omega,if_false,show i+1<=9223372036854775807 by omega,show(stp t f g a i).length<17592186044416 by omega,cM (show i<4611686018427387904 by omega),w64 (x:=(nf g (mI t f g (nf t (wI t f g a i))):Int)-(nf g (nf t (wI t f g a i)):Int)) ac ac];rw[show dN t f g a (i+1)=dN t f g a i++(⟨#[40]⟩:ByteArray) by rw[dN];exact if_neg hc,show stp t f g a (i+1)=stp t f g a i++[(nf g (mI t f g (nf t (wI t f g a i))):Int)-(nf g (nf t (wI t f g a i)):Int)] by rw[stp];exact if_neg hc]at next
       exact next
  · have e2:i=n/2:=ac
    subst e2;refine Ev.s ?_;simp only[aZ.l4,show ¬((n/2:Nat):Int)<((n/2:Nat):Int) by omega,if_false];exact Ev.const rfl
theorem Ha{x y:Nat}(h:FN (nf t) (nf f) (nf g) x y):x<n->Ev (fun k=>hJ.l0 k M (nf t x:Int) t f) (nf t y:Int):=by
 induction h with
 | @here x h=>
   intro hx;have h3:=K.Q.tr _ hx;have e:=su K hx;rw[if_pos h]at e;refine Ev.s ?_;simp only[hJ.l0,e,K.ml,show(0:Int)<=(nf t x:Int) by omega,show(nf t x:Int)<(n:Int) by omega,if_true,show ¬(mI t f g (nf t x):Int)<0 by omega,if_false];exact Ev.const rfl
 | @more x y h1 h2 ih=>
   intro hx;have h3:=K.Q.tr _ hx;have e:=su K hx;rw[if_neg ac]at e;refine Ev.s ?_;simp only[hJ.l0,e,K.ml,K.ht.1,(fA K.ht h3).1,show(0:Int)<=(nf t x:Int) by omega,show(nf t x:Int)<(n:Int) by omega,if_true,show(-1:Int)<0 by decide];exact ih h3
theorem It{x y:Nat}(h:FN (nf t) (nf f) (nf g) x y)(hx:x<n):Ev (fun k=>hJ.f k t f M (x:Int)) (nf t y:Int):=by
 unfold hJ.f;simp only[K.ht.1,(fA K.ht hx).1,show(0:Int)<=(x:Int) by omega,show(x:Int)<(n:Int) by omega,if_true];exact Ha K h hx
theorem AJ(a:Nat)(ha:Dn n (nf f) (nf g) a):∀(d i:Nat) (up:List Bool) (x:Nat),n/2-i=d->i<=n/2->up.length=n->
 (∀y,y<n->(up.getD y false=true↔∃j,j<i/\y=nf t (wI t f g a j)))->x<n->FN (nf t) (nf f) (nf g) x (wI t f g a i)->
 Ev (fun k=>bV.l0 k g M up (x:Int) (i:Int) t f (dN t f g a i) (stp t f g a i)) (dN t f g a (n/2),stp t f g a (n/2),true)
 |d,i,up,x,e,hi,hl,hu,hx,hF=>by
  have hn:=K.hn
  have half:wrap64 ((n:Int)/2)=((n/2:Nat):Int):=by
   rw[w64 ac ac];omega
  by_cases hlt:i<n/2
  · cases d with
    |zero=>omega
    |succ d=>
     obtain⟨s1,s2,s3,s4,s5,s6⟩:=lK K ha i;have sz:=rk t f g a i;have sl:=tl t f g a i
     have u:up.getD (mI t f g (nf t (wI t f g a i))) false=true↔iP t f g a i=true:=by
      rw[hu _ s3,sr];constructor
      · rintro⟨j,h1,h2⟩
        exact⟨j,h1,h2.symm⟩
      · rintro⟨j,h1,h2⟩
        exact⟨j,h1,h2.symm⟩
     have next:=AJ a ha d (i+1) (up.set (nf t (wI t f g a i)) true) (mI t f g (nf t (wI t f g a i))) ac ac (by simp[hl]) (fun y hy=>by
      rw[vA _ _ _ ac];by_cases y2:y=nf t (wI t f g a i)
      · rw[if_pos y2]
        exact⟨fun _=>⟨i,ac,y2⟩,fun _=>rfl⟩
      · rw[if_neg y2,hu y hy]
        constructor
        · rintro⟨j,h1,h2⟩
          exact⟨j,ac,h2⟩
        · rintro⟨j,h1,h2⟩
          by_cases hj:j=i
          · subst hj
            exact absurd h2 y2
          ·exact⟨j,ac,h2⟩) s3 s6
     refine Ev.s ?_;simp only[bV.l0,K.ml,half,show(i:Int)<((n/2:Nat):Int) by omega,if_true];refine Ev.bind (It K hF hx) ?_;by_cases hc:iP t f g a i=true
     · simp only[hl,s4,rq,u.2 hc,sz,Int.toNat_natCast,show(0:Int)<=(nf t (wI t f g a i):Int) by omega,show(nf t (wI t f g a i):Int)<(n:Int) by omega,show(0:Int)<=(mI t f g (nf t (wI t f g a i)):Int) by omega,show(mI t f g (nf t (wI t f g a i)):Int)<(n:Int) by omega,if_true,show i+1<=9223372036854775807 by omega,cM (show i<4611686018427387904 by omega)]
       rw[show dN t f g a (i+1)=dN t f g a i++(⟨#[41]⟩:ByteArray) by rw[dN];exact if_pos hc,show stp t f g a (i+1)=stp t f g a i by rw[stp];exact if_pos hc]at next
       exact next
     · have o:up.getD (mI t f g (nf t (wI t f g a i))) false=false:=by
        cases hb:up.getD (mI t f g (nf t (wI t f g a i))) false with
        |false=>rfl
        |true=>exact absurd (u.1 hb) hc
       obtain⟨g1,g2⟩:=K.gr _ s2;obtain⟨g3,g4⟩:=K.gr _ s3;simp only[K.gl,hl,s4,rq,o,sz,g1,g3,Int.toNat_natCast,Bool.false_eq_true,show(0:Int)<=(nf t (wI t f g a i):Int) by omega,show(nf t (wI t f g a i):Int)<(n:Int) by omega,show(0:Int)<=(mI t f g (nf t (wI t f g a i)):Int) by omega,show(mI t f g (nf t (wI t f g a i)):Int)<(n:Int) by omega,if_true,if_false,show i+1<=9223372036854775807 by omega,show(stp t f g a i).length<17592186044416 by omega,cM (show i<4611686018427387904 by omega),w64 (x:=(nf g (mI t f g (nf t (wI t f g a i))):Int)-(nf g (nf t (wI t f g a i)):Int)) ac ac];rw[show dN t f g a (i+1)=dN t f g a i++(⟨#[40]⟩:ByteArray) by rw[dN];exact if_neg hc,show stp t f g a (i+1)=stp t f g a i++[(nf g (mI t f g (nf t (wI t f g a i))):Int)-(nf g (nf t (wI t f g a i)):Int)] by rw[stp];exact if_neg hc]at next
       exact next
  · have e2:i=n/2:=ac
    subst e2;refine Ev.s ?_;simp only[bV.l0,K.ml,half,show ¬((n/2:Nat):Int)<((n/2:Nat):Int) by omega,if_false];exact Ev.const rfl
end
def Way(τ φ l:Nat->Nat)(v k z y:Nat):Prop:=it (bU τ φ l) k z=y/\∀i,1<=i->i<k->v<=l (it (bU τ φ l) i z)
theorem Way.weak{τ φ l:Nat->Nat}{v v' k z y:Nat}(h:Way τ φ l v' k z y)(hv:v<=v'):Way τ φ l v k z y:=⟨h.1,fun i i1 i2=>Nat.le_trans hv (h.2 i i1 i2)⟩
theorem Way.app{τ φ l:Nat->Nat}{v k k' z y x:Nat}(h:Way τ φ l v k z y)(hy:v<=l y)(h':Way τ φ l v k' y x):Way τ φ l v (k+k') z x:=by
 refine⟨by rw[fJ,h.1,h'.1],fun i i1 i2=>?_⟩;by_cases c:i<k
 ·exact h.2 i i1 c
 · by_cases c2:i=k
   ·subst c2;rw[h.1];exact hy
   · have:=h'.2 (i-k) ac ac
     rw[show i=k+(i-k) by omega,fJ,h.1];exact this
theorem Way.round{τ φ l:Nat->Nat}{v k z:Nat}(hk:1<=k)(h:Way τ φ l v k z z)(hz:v<=l z)(i:Nat):v<=l (it (bU τ φ l) i z):=by
 have b:it (bU τ φ l) i z=it (bU τ φ l) (i%k) z:=by
  conv=>lhs;rw[<-Nat.div_add_mod i k]
  rw[fJ,qf h.1]
 rw[b];have hm:=Nat.mod_lt i (show 0<k by omega);by_cases c:i%k=0
 ·rw[c];exact hz
 ·exact h.2 _ ac hm
theorem Way.first{τ φ l:Nat->Nat}{v k k' z b b':Nat}(h:Way τ φ l v k z b)(h':Way τ φ l v k' z b')(hk:1<=k)(B:1<=k')(hb:l b<v)(q:l b'<v):k=k'/\b=b':=by
 have e:k=k':=by
  by_cases c:k<k'
  · have:=h'.2 k hk c
    rw[h.1]at this;omega
  · by_cases c':k'<k
    · have:=h.2 k' B c'
      rw[h'.1]at this;omega
    ·omega
 subst e;exact⟨rfl,h.1.symm.trans h'.1⟩
theorem Way.last{τ φ l:Nat->Nat}{v z0 c:Nat}:∀(k:Nat),1<=k->Way τ φ l v k z0 c->l z0=v->∃i k',1<=k'/\i+k'=k/\l (it (bU τ φ l) i z0)=v/\Way τ φ l (v+1) k' (it (bU τ φ l) i z0) c:=by
 intro k
 induction k using Nat.strongRecOn generalizing z0 with
 |ind k ih=>
  intro hk h hz;by_cases c1:∃i,1<=i/\i<k/\l (it (bU τ φ l) i z0)=v
  · obtain⟨i,i1,i2,i3⟩:=c1
    obtain⟨j,k',j1,j2,j3,j4⟩:=ih (k-i) ac ac (z0:=it (bU τ φ l) i z0) ⟨by rw[<-fJ,show i+(k-i)=k by omega];exact h.1,fun q q1 q2=>by rw[<-fJ];exact h.2 _ ac ac⟩ i3;rw[<-fJ]at j3 j4;exact⟨i+j,k',j1,ac,j3,j4⟩
  · refine⟨0,k,hk,ac,hz,h.1,fun i i1 i2=>?_⟩
    have a:=h.2 i i1 i2;show v+1<=l (it (bU τ φ l) i z0);have b:l (it (bU τ φ l) i z0)≠v:=fun e=>c1 ⟨i,i1,i2,e⟩
    omega
section
variable {n:Nat} {τ φ l:Nat->Nat} (Q:Qd n τ φ l)
include Q
theorem Qd.wi{v z y:Nat}(hz:Dn n φ l z)(h:Run τ φ l v z y):∃k,1<=k/\Way τ φ l v k z y:=by
 obtain⟨m,m1,m2⟩:=Q.uo hz h;exact⟨m+1,ac,m1,fun i i1 i2=>m2 i i1 ac⟩
theorem Qd.qW{e:Nat}(he:e<n)(ue:l (φ e)=l e+1):Dn n φ l (φ e):=⟨Q.fr e he,by rw[Q.ff e he];exact ue.symm⟩
theorem Qd.pS{z:Nat}(hz:Dn n φ l z)(kz:2<=l z):∃b k,1<=k/\FN τ φ l (φ z) b/\Way τ φ l (l z) k z b/\l b+1=l z/\Dn n φ l b:=by
 obtain⟨b,b1,b2⟩:=Q.uu hz.1 hz.2 kz;obtain⟨k,k1,k2⟩:=Q.wi hz b2;obtain⟨f1,f2,f3,_⟩:=Q.km (Q.fr z hz.1) b1;exact⟨b,k,k1,b1,k2,by have:=hz.2;omega,f1,f3⟩
theorem Qd.chain:∀(q e:Nat),1<=q->e<n->(∀i,i<=q->l (φ (it τ i e))=l e+1)->∃k,1<=k/\Way τ φ l (l e+1) k (φ (it τ q e)) (φ e):=by
 intro q
 induction q with
 |zero=>intro e h;omega
 |succ q ih=>
  intro e _ he hu;have hq:=Q.itr he q;have lq:=Q.itl he q;have uq:=hu q ac;have us:=hu (q+1) ac;rw[gY]at us;have b:=Q.lt _ hq;have R:=Q.wT hq rfl ac (show l (φ (τ (it τ q e)))=l (τ (it τ q e))+1 by omega);obtain⟨k1,k2,k3⟩:=Q.wi (Q.qW (Q.tr _ hq) ac) R;have k3:=k3.weak (show l e+1<=l (τ (it τ q e))+2 by omega);by_cases c:q=0
  · subst c
    exact⟨k1,k2,k3⟩
  · obtain⟨k4,k5,k6⟩:=ih e ac he (fun i hi=>hu i ac)
    rw[gY];exact⟨k1+k4,ac,k3.app ac k6⟩
theorem Qd.AH{z:Nat}(hz:Dn n φ l z)(hu:l (φ (τ (φ z)))=l (τ (φ z))+1):Dn n φ l (φ (τ (φ z)))/\l (φ (τ (φ z)))=l z/\∃k,1<=k/\Way τ φ l (l z+1) k (φ (τ (φ z))) z:=by
 have p1:=Q.fr z hz.1;have q1:=Q.tr _ p1;have e1:=Q.lt _ p1;have e2:=Q.ff z hz.1;have e3:=hz.2;have R:=Q.wT p1 rfl (by rw[e2];omega) hu;rw[e2]at R;obtain⟨k,k1,k2⟩:=Q.wi (Q.qW q1 hu) R;exact⟨Q.qW q1 hu,ac,k,k1,k2.weak ac⟩
theorem Qd.FT{z z' k':Nat}(hz:Dn n φ l z)(v:Dn n φ l z')(e:l z'=l z)(hk:1<=k')(h:Way τ φ l (l z+1) k' z' z):l (φ (τ (φ z)))=l (τ (φ z))+1:=by
 have p1:=Q.fr z hz.1;have q1:=Q.tr _ p1;have e1:=Q.lt _ p1;have e2:=Q.ff z hz.1;have e3:=hz.2;rcases Q.st _ q1 with d|d
 · exfalso
   obtain⟨b,k,k1,b1,b2,b3,_⟩:=Q.pS hz ac;have eb:b=τ (φ z):=b1.uniq (.more (by rw[e2];omega) (.here d.symm));subst eb;obtain⟨b',k2,k3,c1,c2,c3,_⟩:=Q.pS v ac;have w:=h.weak (show l z<=l z+1 by omega);rw[e]at c2;obtain⟨_,eb⟩:=(w.app (Nat.le_refl _) b2).first c2 ac k3 ac ac
   subst eb;obtain⟨_,_,_,j,j1,j2⟩:=Q.km (Q.fr z' v.1) c1;have p2:=Q.fr z' v.1;have f2:=Q.ff z' v.1;have e4:=v.2
   have c:∀m,1<=m->Way τ φ l (l z) m z z->False:=fun m m1 m2=>by
    have:=m2.round m1 (Nat.le_refl _) k;rw[b2.1]at this;omega
   cases j with
   |zero=>
    have j1:φ z'=τ (φ z):=j1;rw[<-j1,f2]at d;omega
   |succ j=>
    rw[gY]at j1;have j3:=Q.ti _ _ (Q.itr p2 j) p1 j1;by_cases cj:j=0
    · subst cj
      have j3:φ z'=φ z:=j3;have ez:z'=z:=by rw[<-f2,j3,e2]
      subst ez;exact c k' hk w
    · obtain⟨k4,k5,k6⟩:=Q.chain j (φ z') ac p2 (fun i hi=>j2 i ac)
      rw[j3,e2,f2]at k6;exact c (k4+k') ac ((k6.weak ac).app ac w)
 ·exact d
theorem Qd.FD{z z' k':Nat}(hz:Dn n φ l z)(v:Dn n φ l z')(e:l z'=l z)(hk:1<=k')(h:Way τ φ l (l z+1) k' z' z):τ (φ z)=φ z':=by
 have hu:=Q.FT hz v e hk h;obtain⟨d1,d2,k1,d3,d4⟩:=Q.AH hz hu
 have B:∀(x y:Nat) (i j:Nat),Dn n φ l x->Dn n φ l y->l x=l z->Way τ φ l (l z+1) i x z->Way τ φ l (l z+1) j y z->1<=i->i<j->False:=fun x y i j hx hy lx wx wy i1 ij=>by
  have e1:it (bU τ φ l) i x=it (bU τ φ l) i (it (bU τ φ l) (j-i) y):=by rw[<-fJ,show j-i+i=j by omega,wx.1,wy.1]
  have e2:=Q.pQ hx (Q.iJ hy _) i e1;have:=wy.2 (j-i) ac ac;rw[<-e2]at this;omega
 have ek:k'=k1:=by
  by_cases c:k'<k1
  ·exact absurd (B _ _ _ _ v d1 e h d4 hk c) id
  · by_cases c':k1<k'
    ·exact absurd (B _ _ _ _ d1 v d2 d4 h d3 c') id
    ·omega
 subst ek;have e1:=Q.pQ v d1 k' (h.1.trans d4.1.symm);rw[e1,Q.ff _ (Q.tr _ (Q.fr z hz.1))]
theorem Qd.Ej{z:Nat}(hz:Dn n φ l z)(r:∀z' k',Dn n φ l z'->l z'=l z->1<=k'->¬Way τ φ l (l z+1) k' z' z):∃c k,1<=k/\Dn n φ l c/\Way τ φ l (l z) k z c/\l c+1=l z/\τ (φ z)=c:=by
 have p1:=Q.fr z hz.1;have q1:=Q.tr _ p1;have e1:=Q.lt _ p1;have e2:=Q.ff z hz.1;have e3:=hz.2;rcases Q.st _ q1 with d|d
 · obtain⟨b,k,k1,b1,b2,b3,b4⟩:=Q.pS hz ac
   have eb:b=τ (φ z):=b1.uniq (.more (by rw[e2];omega) (.here d.symm));exact⟨b,k,k1,b4,b2,b3,eb.symm⟩
 · obtain⟨d1,d2,k1,d3,d4⟩:=Q.AH hz d
   exact absurd d4 (r _ _ d1 d2 d3)
theorem Qd.FP{w c z k':Nat}(hw:Dn n φ l w)(hc:FN τ φ l (τ w) c)(hz:Dn n φ l z)(e:l z=l c+1)(hk:1<=k')(h:Way τ φ l (l z+1) k' z c):τ w=φ z:=by
 have hh:=Q.tr w hw.1;have lh:=Q.lt w hw.1;have e3:=hw.2;obtain⟨c1,c2,c3,p,p1,p2⟩:=Q.km hh hc;obtain⟨b,k,k1,b1,b2,b3,b4⟩:=Q.pS hz ac;obtain⟨_,eb⟩:=(h.weak (show l z<=l z+1 by omega)).first b2 hk k1 ac ac
 subst eb;have hp:=Q.fr z hz.1;have f2:=Q.ff z hz.1;have e4:=hz.2;obtain⟨_,_,_,j,j1,j2⟩:=Q.km hp b1;cases j with
 |zero=>
  have j1:φ z=c:=j1;rw[<-j1,f2]at c3;omega
 |succ j=>
  by_cases cp:j+1<=p
  · have e5:it τ (j+1) (φ z)=it τ (j+1) (it τ (p-(j+1)) (τ w)):=by rw[<-fJ,show p-(j+1)+(j+1)=p by omega,j1,p1]
    have e6:=Q.qL hp (Q.itr hh _) _ e5;by_cases c0:p-(j+1)=0
    · rw[c0]at e6
      exact e6.symm
    · exfalso
      obtain⟨k3,k4,k5⟩:=Q.chain (p-(j+1)) (τ w) ac hh (fun i hi=>p2 i ac);rw[<-e6,f2]at k5;have u0:=p2 0 ac;have u0:l (φ (τ w))=l (τ w)+1:=u0;by_cases c7:k3<k'
      · have:=h.2 k3 k4 c7
        rw[k5.1]at this;omega
      · by_cases c8:k'<k3
        · have:=k5.2 k' hk c8
          rw[h.1]at this;omega
        · have ek:k3=k':=ac
          subst ek;have:=k5.1.symm.trans h.1;rw[this]at u0;omega
  · exfalso
    have e5:it τ p (it τ (j+1-p) (φ z))=it τ p (τ w):=by rw[<-fJ,show j+1-p+p=j+1 by omega,j1,p1]
    have e6:=Q.qL (Q.itr hp _) hh _ e5;rw[show j+1-p=(j-p)+1 by omega,gY]at e6;have e7:=Q.ti _ _ (Q.itr hp _) hw.1 e6;have u:=j2 (j-p) ac;have lp:=Q.itl hp (j-p);rw[e7]at u lp;omega
theorem Qd.DJ{w c:Nat}(hw:Dn n φ l w)(hc:FN τ φ l (τ w) c)(r:∀z k',Dn n φ l z->l z=l c+1->1<=k'->¬Way τ φ l (l z+1) k' z c):τ w=c:=by
 have hh:=Q.tr w hw.1;have lh:=Q.lt w hw.1;have e3:=hw.2;obtain⟨c1,c2,c3,_⟩:=Q.km hh hc;rcases Q.st _ hh with d|d
 ·exact(FN.here d.symm).uniq hc
 · exfalso
   have hz:=Q.qW hh d;obtain⟨b,k,k1,b1,b2,b3,b4⟩:=Q.pS hz ac;rw[Q.ff _ hh]at b1;have eb:=b1.uniq hc;subst eb;obtain⟨i,k',i1,i2,i3,i4⟩:=Way.last k k1 b2 rfl;exact r _ k' (Q.iJ hz i) ac i1 (by rw[i3];exact i4)
end
section
variable {t f g M:List Int} {n:Nat} (K:QTok t f g M n) {a:Nat} (ha:Dn n (nf f) (nf g) a)
include K ha
theorem gu(i:Nat):Dn n (nf f) (nf g) (wI t f g a i):=K.Q.iJ ha i
omit K ha in
theorem qA(t f g:List Int)(a i k:Nat):it (bU (nf t) (nf f) (nf g)) k (wI t f g a i)=wI t f g a (i+k):=(fJ _ _ _ _).symm
omit ha in
theorem pM:2*(n/2)=n:=by
 have:=K.Q.half;omega
theorem mE(i:Nat):wI t f g a i=wI t f g a (i%(n/2)):=by
 unfold wI
 conv=>lhs;rw[<-Nat.div_add_mod i (n/2)]
 rw[fJ,qf (K.Q.close ha)]
theorem qT{i j:Nat}(hi:i<n/2)(hj:j<n/2)(e:wI t f g a i=wI t f g a j):i=j:=by
 by_cases c:i<j
 ·exact absurd e (K.Q.once ha i j c ac)
 · by_cases c':j<i
   ·exact absurd e.symm (K.Q.once ha j i c' ac)
   ·omega
theorem qd{b:Nat}(hb:Dn n (nf f) (nf g) b):∃i,i<n/2/\wI t f g a i=b:=by
 obtain⟨i,i1,i2⟩:=K.Q.cover ha hb;have:=pM K;exact⟨i,ac,i2⟩
theorem td:0<n/2:=by
 have:=ha.1;have:=pM K;omega
theorem uA(i:Nat):∃j,j<n/2/\mI t f g (nf t (wI t f g a i))=nf t (wI t f g a j):=by
 have dn:=gu K ha i;obtain⟨v,v1,v2,v3,v4,v5⟩:=K.Q.mate dn.1 dn.2;obtain⟨j,j1,j2⟩:=qd K ha ⟨v1,v2⟩;exact⟨j,j1,by rw[j2];exact v3⟩
noncomputable def eG(i:Nat):Nat:=Classical.choose (uA K ha i)
theorem vN(i:Nat):eG K ha i<n/2:=(Classical.choose_spec (uA K ha i)).1
theorem lA(i:Nat):mI t f g (nf t (wI t f g a i))=nf t (wI t f g a (eG K ha i)):=(Classical.choose_spec (uA K ha i)).2
theorem Bb{i j:Nat}(hi:i<n/2)(hj:j<n/2)(e:nf t (wI t f g a i)=nf t (wI t f g a j)):i=j:=qT K ha hi hj (K.Q.ti _ _ (gu K ha i).1 (gu K ha j).1 e)
theorem AA(i:Nat)(hi:i<n/2):eG K ha (eG K ha i)=i:=by
 refine Bb K ha (vN K ha _) hi ?_;rw[<-lA,<-lA];exact(lK K ha i).2.2.2.2.1
theorem Fw(i:Nat)(hi:i<n/2):iP t f g a i=true↔eG K ha i<i:=by
 rw[sr];constructor
 · rintro⟨j,j1,j2⟩
   rw[lA K ha]at j2;rw[<-Bb K ha ac (vN K ha i) j2];exact j1
 · intro h
   exact⟨_,h,(lA K ha i).symm⟩
theorem HX(i:Nat):nf g (wI t f g a (i+1))=nf g (wI t f g a (eG K ha i)):=by
 obtain⟨s1,s2,s3,s4,s5,s6⟩:=lK K ha i;have:=(K.Q.km s3 s6).2.1;rw[this,lA K ha i,K.Q.lt _ (gu K ha _).1]
theorem DZ(i:Nat):stp t f g a (i+1)=if iP t f g a i=true then stp t f g a i else stp t f g a i++[(nf g (wI t f g a (eG K ha i)):Int)-(nf g (wI t f g a i):Int)]:=by
 rw[stp,lA K ha i,K.Q.lt _ (gu K ha _).1,K.Q.lt _ (gu K ha _).1]
omit ha in
theorem zY{w:Nat}(hw:Dn n (nf f) (nf g) w)(h2:∀x,x<n->nf t (nf f (nf t (nf f x)))≠x):mI t f g (nf t w)≠nf t w/\(nf g (mI t f g (nf t w))=nf g w+1\/nf g (mI t f g (nf t w))=nf g w\/nf g (mI t f g (nf t w))+1=nf g w):=by
 have hc:=K.Q.tr w hw.1;have F:=K.Q.face hw.1 (e:=nf t w) rfl;have lc:=K.Q.lt w hw.1;have h2:=h2 _ hc;have e3:=hw.2;unfold mI Mt;have p1:=K.Q.fr _ hc;have q1:=K.Q.tr _ p1;have e1:=K.Q.lt _ p1;split
 · rename_i c
   refine⟨fun z=>?_,?_⟩
   · have:=congrArg (nf g) z
     omega
   ·omega
 · split
   · rename_i c1 c2
     exact⟨h2,ac⟩
   · rw[F]
     refine⟨fun z=>?_,ac⟩;have:=congrArg (nf g) z;omega
theorem GF(h2:∀x,x<n->nf t (nf f (nf t (nf f x)))≠x)(i:Nat):eG K ha i≠i:=by
 intro e;have:=(zY K (gu K ha i) h2).1;rw[lA K ha i,e]at this;exact this rfl
theorem Ig(h2:∀x,x<n->nf t (nf f (nf t (nf f x)))≠x)(i:Nat):nf g (wI t f g a (eG K ha i))=nf g (wI t f g a i)+1\/nf g (wI t f g a (eG K ha i))=nf g (wI t f g a i)\/nf g (wI t f g a (eG K ha i))+1=nf g (wI t f g a i):=by
 have:=(zY K (gu K ha i) h2).2;rw[lA K ha i,K.Q.lt _ (gu K ha _).1]at this;exact this
theorem AQ(i:Nat)(hi:i<n/2):FN (nf t) (nf f) (nf g) (nf t (wI t f g a i)) (wI t f g a ((eG K ha i+1)%(n/2))):=by
 obtain⟨s1,s2,s3,s4,s5,s6⟩:=lK K ha (eG K ha i);rw[lA K ha,AA K ha i hi]at s6;rw[<-mE K ha];exact s6
def Sv(t f g:List Int)(n a i j:Nat):Prop:=Reach [t] n (wI t f g a i) (wI t f g a j)
omit ha in
theorem vx{x:Nat}(hx:x<n)(k:Nat):Reach [t] n x (it (nf t) k x):=by
 have:=nQ [t] t n K.ht ay k (x:Int) ac;rw[tO K.ht k x hx]at this;simpa using this
theorem HS(i:Nat)(hi:i<n/2):Sv t f g n a i ((eG K ha i+1)%(n/2)):=by
 have h:=AQ K ha i hi;have dn:=gu K ha i;obtain⟨_,_,_,j,j1,_⟩:=K.Q.km (K.Q.tr _ dn.1) h;have:=vx K dn.1 (j+1);rw[show it (nf t) (j+1) (wI t f g a i)=it (nf t) j (nf t (wI t f g a i))from rfl,j1]at this;exact this
theorem Gz(hti:bL n t)(hV:4<=(aE t n n).2.length):∃i j k,i<n/2/\j<n/2/\k<n/2/\¬Sv t f g n a i j/\¬Sv t f g n a i k/\¬Sv t f g n a j k:=by
 obtain⟨reps,r1,r2,r3,r4⟩:=oK t n K.ht hti n (Nat.le_refl _)
 have e:∀r,r∈reps->nf g r≠0->∃i,i<n/2/\Reach [t] n (wI t f g a i) r:=by
  intro r hr h0;have c:=((r3 r).1 hr).1;obtain⟨y,y1,y2,k,y3⟩:=K.Q.db r c ac;obtain⟨i,i1,i2⟩:=qd K ha ⟨y1,y2⟩;refine⟨i,i1,?_⟩;have:=vx K y1 k;rw[y3]at this;rw[i2];exact this
 have apart:∀r r',r∈reps->r'∈reps->Reach [t] n r r'->r=r':=fun r r' h h' hr=>qC (Reach [t] n) (fun _ _ h=>h.symm) _ _ ((r3 r).1 h).2 ((r3 r').1 h').2 hr
 have zero:∀r r',r∈reps->r'∈reps->nf g r=0->nf g r'=0->r=r':=fun r r' h h' z z'=>by
  have c:=((r3 r).1 h).1;obtain⟨k,hk⟩:=K.Q.pt r r' c ((r3 r').1 h').1 z z';have:=vx K c k;rw[hk]at this;exact apart r r' h h' this
 have b:∀x y z,x∈reps->y∈reps->z∈reps->x≠y->x≠z->y≠z->nf g x≠0->nf g y≠0->nf g z≠0->∃i j k,i<n/2/\j<n/2/\k<n/2/\¬Sv t f g n a i j/\¬Sv t f g n a i k/\¬Sv t f g n a j k:=by
  intro x y z hx hy hz xy xz yz nx ny nz;obtain⟨i,i1,i2⟩:=e x hx nx;obtain⟨j,j1,j2⟩:=e y hy ny;obtain⟨k,k1,k2⟩:=e z hz nz;exact⟨i,j,k,i1,j1,k1,fun s=>xy (apart x y hx hy ((i2.symm.trans s).trans j2)),fun s=>xz (apart x z hx hz ((i2.symm.trans s).trans k2)),fun s=>yz (apart y z hy hz ((j2.symm.trans s).trans k2))⟩
 match reps,r1,r2,apart,zero,b with
 |[],r1,_,_,_,_=>simp at r1;omega
 |[_],r1,_,_,_,_=>simp at r1;omega
 |[_,_],r1,_,_,_,_=>simp at r1;omega
 |[_,_,_],r1,_,_,_,_=>simp at r1;omega
 |w::x::y::z::rest,_,nd,_,zero,b=>
  simp only[List.nodup_cons,List.mem_cons,not_or]at nd;obtain⟨⟨wx,wy,wz,_⟩,⟨xy,xz,_⟩,⟨yz,_⟩,_⟩:=nd;by_cases zw:nf g w=0
  · have nx:nf g x≠0:=fun h=>wx (zero w x ay ay zw h)
    have ny:nf g y≠0:=fun h=>wy (zero w y ay ay zw h)
    have nz:nf g z≠0:=fun h=>wz (zero w z ay ay zw h)
    exact b x y z ay ay ay xy xz yz nx ny nz
  · by_cases zx:nf g x=0
    · have ny:nf g y≠0:=fun h=>xy (zero x y ay ay zx h)
      have nz:nf g z≠0:=fun h=>xz (zero x z ay ay zx h)
      exact b w y z ay ay ay wy wz yz zw ny nz
    · by_cases zy:nf g y=0
      · have nz:nf g z≠0:=fun h=>yz (zero y z ay ay zy h)
        exact b w x z ay ay ay wx wz xz zw zx nz
      ·exact b w x y ay ay ay wx wy xy zw zx zy
theorem Ep(hti:bL n t)(hV:4<=(aE t n n).2.length)(x y:Nat)(h:∀i,i<n/2->Sv t f g n a x i\/Sv t f g n a y i):False:=by
 obtain⟨i,j,k,i1,j1,k1,ij,ik,jk⟩:=Gz K ha hti hV;rcases h i i1 with p|p<;>rcases h j j1 with q|q<;>rcases h k k1 with r|r
 ·exact ij (p.symm.trans q)
 ·exact ij (p.symm.trans q)
 ·exact ik (p.symm.trans r)
 ·exact jk (q.symm.trans r)
 ·exact jk (q.symm.trans r)
 ·exact ik (p.symm.trans r)
 ·exact ij (p.symm.trans q)
 ·exact ij (p.symm.trans q)
end
end Go.Proofs.Ytlpbalebodlipaa.PL
