/- For every list of bytes: of the quadrangulation, root and point that the statement draws, QuadTree of the program answers what the reference answers; if it is a tree, then that is valid, its quadrangulation is the drawn one up to names, and its star is the point. There are no conditions. -/
import Derived.Test.YtlpbalebodlipaaKFnQuadTreeOwnx12
set_option maxHeartbeats 0
set_option linter.unusedVariables false
set_option linter.unusedSimpArgs false
namespace Go.Proofs.Ytlpbalebodlipaa.PL
open Go.RowKit Go.Proofs.YtlpbalebodlipaaW.PrintWords Go.Proofs.YtlpbalebodlipaaW.PrintLast Go.Proofs.YtlpbalebodlipaaW.PrintMore
def iW(a b:List Int):Nat->List Int
 |0=>[]
 |i+1=>iW a b i++[2*rd a i,2*rd b i+1]
def ig:Nat->List Int
 |0=>[]
 |i+1=>ig i++[2*(i:Int)+1,2*(i:Int)]
theorem rc(a b:List Int):∀n,(iW a b n).length=2*n
 |0=>rfl
 |n+1=>by simp[iW,rc a b n];omega
theorem sL:∀n,(ig n).length=2*n
 |0=>rfl
 |n+1=>by simp[ig,sL n];omega
theorem DD(n:Nat)(hn:n<=1048576):∀(d i:Nat),n-i=d->i<=n->Ev (fun k=>cL.l0 k n (ig i) i) (ig n)
 |0,i,hd,hi=>by
  have:i=n:=ac;subst this;refine Ev.s ?_;simp only[cL.l0,show ¬(i:Int)<(i:Int) by omega,if_false];exact Ev.const rfl
 |d+1,i,hd,hi=>by
  refine Ev.s ?_;have e1:wrap64 (2*(i:Int))=2*(i:Int):=w64 ac ac;have e2:wrap64 (2*(i:Int)+1)=2*(i:Int)+1:=w64 ac ac;simp only[cL.l0,show(i:Int)<(n:Int) by omega,if_true,Option.bind_some,e1,e2,sL,List.length_cons,List.length_nil,show 2*i+(0+1+1)<17592186044416 by omega];rw[cM ac];exact DD n hn d (i+1) ac ac
theorem Is(n:Nat)(hn:n<=1048576):Ev (fun k=>cL.f k n) (ig n):=by
 unfold cL.f;exact DD n hn n 0 ac ac
theorem AL(n:Nat)(hn:n<=12)(t f b F:List Int)(ht:inR n t)(hb:inR n b):∀(d i:Nat),n-i=d->i<=n->Ev (fun k=>dx.l0 k b i t f (iW t b i) F) (iW t b n,F,true)
 |0,i,hd,hi=>by
  have:i=n:=ac;subst this;refine Ev.s ?_;simp only[dx.l0,ht.1,show ¬(i:Int)<(i:Int) by omega,if_false];exact Ev.const rfl
 |d+1,i,hd,hi=>by
  have h1:=ht.2 i ac;have h2:=hb.2 i ac;refine Ev.s ?_;have e1:wrap64 (2*rd t i)=2*rd t i:=w64 ac ac;have e2:wrap64 (2*rd b i)=2*rd b i:=w64 ac ac;have e3:wrap64 (2*rd b i+1)=2*rd b i+1:=w64 ac ac;have hi':(i:Int)<(n:Int):=ac;have h0:(0:Int)<=(i:Int):=ac;have hz:2*i+(0+1+1)<17592186044416:=ac;simp only[dx.l0,ht.1,hb.1,hi',h0,if_true,Option.bind_some,e1,e2,e3,rc,List.length_cons,List.length_nil,hz];rw[cM ac];exact AL n hn t f b F ht hb d (i+1) ac ac
theorem C8(l m:List Int)(i:Nat)(x y:Int)(hl:2*i+1<l.length)(h:l.take (2*i)=m):((l.set (2*i) x).set (2*i+1) y).take (2*(i+1))=m++[x,y]:=by
 rw[show 2*(i+1)=2*i+1+1 by omega,vt _ _ _ (by simpa using hl),vt _ _ _ ac,h];simp
theorem yl(n:Nat)(hn:n<=12)(t f b:List Int)(ht:inR n t)(hb:inR n b):∀(d i:Nat) (T F:List Int),n-i=d->i<=n->T.length=2*n->F.length=2*n->T.take (2*i)=iW t b i->F.take (2*i)=ig i->
 Ev (fun k=>fB.l0 k b n i t f T F) (iW t b n,ig n,true)
 |0,i,T,F,hd,hi,hT,hF,tT,tF=>by
  have:i=n:=ac;subst this;refine Ev.s ?_;simp only[fB.l0,show ¬(i:Int)<(i:Int) by omega,if_false];rw[List.take_of_length_le ac]at tT tF;exact Ev.const (by rw[tT,tF])
 |d+1,i,T,F,hd,hi,hT,hF,tT,tF=>by
  have h1:=ht.2 i ac;have h2:=hb.2 i ac;refine Ev.s ?_;have e1:wrap64 (2*rd t i)=2*rd t i:=w64 ac ac;have e2:wrap64 (2*rd b i)=2*rd b i:=w64 ac ac;have e3:wrap64 (2*rd b i+1)=2*rd b i+1:=w64 ac ac;have e4:wrap64 (2*(i:Int))=2*(i:Int):=w64 ac ac;have e5:wrap64 (2*(i:Int)+1)=2*(i:Int)+1:=w64 ac ac;have hi':(i:Int)<(n:Int):=ac;have h0:(0:Int)<=(i:Int):=ac;have g1:(0:Int)<=2*(i:Int):=ac;have g2:2*(i:Int)<((2*n:Nat):Int):=ac;have g3:(0:Int)<=2*(i:Int)+1:=ac;have g4:2*(i:Int)+1<((2*n:Nat):Int):=ac;have n1:(2*(i:Int)).toNat=2*i:=ac;have n2:(2*(i:Int)+1).toNat=2*i+1:=ac;simp only[fB.l0,ht.1,hb.1,hT,hF,hi',h0,e1,e2,e3,e4,e5,g1,g2,g3,g4,if_true,n1,n2];rw[cM ac];exact yl n hn t f b ht hb d (i+1) _ _ ac ac (by simpa using hT) (by simpa using hF) (C8 _ _ _ _ _ ac tT) (C8 _ _ _ _ _ ac tF)
theorem Hg(t f:List Int)(ht:t.length<=1048576)(hf:f.length<=1048576):∃(T F:List Int) (b:Bool),Ev (fun k=>dx.f k t f) (T,F,b)/\Ev (fun k=>fB.f k t f) (T,F,b)/\T.length<=12/\F.length<=12:=by
 obtain⟨b,b1,b2,b3⟩:=mB t f ht hf;have r:Ev (fun k=>dx.j0 k true t f) ([],[],false):=Ev.s (by simp only[dx.j0,if_true];exact Ev.const rfl);have c:Ev (fun k=>fB.j0 k true t f) ([],[],false):=Ev.s (by simp only[fB.j0,if_true];exact Ev.const rfl);unfold dx.f fB.f;cases b with
 |false=>exact⟨[],[],false,Ev.bind b1 (by simp only[Bool.false_eq_true,if_false];exact r),Ev.bind b2 (by simp only[Bool.false_eq_true,if_false];exact c),ay,ay⟩
 |true=>
  obtain⟨pt,pf,N,-,-⟩:=b3.1 rfl;by_cases h6:(t.length:Int)>6
  · refine⟨[],[],false,Ev.bind b1 ?_,Ev.bind b2 ?_,ay,ay⟩
    ·simp only[if_true,decide_eq_true h6];exact r
    ·simp only[if_true,decide_eq_true h6];exact c
  · have j:inR t.length t:=iY t pt
    have v:inR t.length f:=by have:=iY f pf;rwa [<-N]at this
    have hn:t.length<=6:=ac;have hm:=jf t.length f t v j;have hb:=oy (aX f t t.length) t.length;refine⟨iW t (dD (aX f t t.length) t.length t.length) t.length,ig t.length,true,Ev.bind b1 ?_,Ev.bind b2 ?_,by rw[rc];omega,by rw[sL];omega⟩
    · simp only[if_true,decide_eq_false h6]
      refine Ev.s ?_;simp only[dx.j0,Bool.false_eq_true,if_false]
      have e:Ev (fun k=>gq.f k t f) (aX f t t.length):=by
       unfold gq.f;exact Ev.bind (pE t.length ac f t v j) (Ev.const rfl)
      refine Ev.bind e ?_;refine Ev.bind (xi t.length ac _ hm) ?_;refine Ev.bind (Is t.length ac) ?_;exact AL t.length ac t f _ _ j hb t.length 0 ac ac
    · simp only[if_true,decide_eq_false h6]
      refine Ev.s ?_;simp only[fB.j0,Bool.false_eq_true,if_false];refine Ev.bind (ma t.length ac f t v j) ?_;refine Ev.bind (Cs t.length ac _ hm) ?_;have e1:wrap64 (2*(t.length:Int))=2*(t.length:Int):=w64 ac ac;have n1:(2*(t.length:Int)).toNat=2*t.length:=ac;have g1:(0:Int)<=2*(t.length:Int):=ac;have g2:2*t.length<=35184372088832:=ac;simp only[e1,n1,g1,g2,if_true];exact yl t.length ac t f _ j hb t.length 0 (List.replicate (2*t.length) 0) (List.replicate (2*t.length) 0) ac ac ay ay rfl rfl
def sm:List Int->Int
 |[]=>0
 |x::l=>x+sm l
theorem ya:∀(a b:List Int),sm (a++b)=sm a+sm b
 |[],b=>by simp[sm]
 |x::a,b=>by simp only[List.cons_append,sm,ya a b];omega
theorem zp(p:List Int)(n:Nat)(hp:inR n p):∀(f:Nat) (s:List Bool) (c:List Int) (a:Int),s.length=n->0<=a->a<n->(cw p f s c a).2.length+fresh (cw p f s c a).1=c.length+fresh s
 |0,s,c,a,hs,h0,h1=>rfl
 |f+1,s,c,a,hs,h0,h1=>by
  simp only[cw];by_cases e:cP false s a=true
  ·simp only[e,if_true]
  · simp only[e,Bool.false_eq_true,if_false]
    have h3:s.getD a.toNat false=false:=by rw[<-iH s a h0];simpa using e
    have h4:=nl s a.toNat ac h3;have h5:=hp.2 a.toNat ac;rw[show((a.toNat:Nat):Int)=a by omega]at h5;have ih:=zp p n hp f (s.set a.toNat true) (c++[a]) (rd p a) (by simpa using hs) h5.1 h5.2;rw[List.length_append,List.length_singleton]at ih;omega
theorem xB(p:List Int)(n:Nat)(hp:inR n p):∀i,i<=n->sm (dX (aE p n i).2)+(fresh (aE p n i).1:Int)=n
 |0,_=>by
  have:(List.replicate n false).countP (fun b=>!b)=n:=by rw[List.countP_replicate];simp
  simp[aE,dX,sm,fresh,this]
 |i+1,hi=>by
  have ih:=xB p n hp i ac;have hb:=zp p n hp (n+1) (aE p n i).1 [] i (kL p n i) ac ac;rw[List.length_nil,Nat.zero_add]at hb;simp only[aE];by_cases e:(cw p (n+1) (aE p n i).1 [] (i:Int)).2=[]
  · rw[if_pos e]
    rw[e,List.length_nil]at hb;omega
  · rw[if_neg e]
    unfold dX at ih ⊢;rw[List.map_append,ya];simp only[List.map_cons,List.map_nil,sm];omega
theorem DO(p:List Int)(n:Nat)(hp:inR n p)(hi:bL n p):sm (dX (aE p n n).2)=n:=by
 have h:=xB p n hp n (Nat.le_refl _);have hl:=kL p n n
 have hf:fresh (aE p n n).1=0:=by
  unfold fresh;rw[List.countP_eq_zero];intro b hb;obtain⟨i,hi',rfl⟩:=List.mem_iff_getElem.1 hb;have:=(mA p n hp hi n (Nat.le_refl _) i ac).2 ⟨i,ac,Reach.refl _ _ _⟩;rw[List.getD_eq_getElem?_getD,List.getElem?_eq_getElem hi',Option.getD_some]at this;rw[this];decide
 omega
theorem Ch:∀(C:List (List Int)),(∀l∈C,4<=l.length)->4*(C.length:Int)<=sm (dX C)/\(sm (dX C)<=4*(C.length:Int)->∀l∈C,l.length=4)
 |[],_=>⟨by simp[dX,sm],fun _ l hl=>by simp at hl⟩
 |x::C,h=>by
  obtain⟨a,b⟩:=Ch C fun l hl=>h l (by simp[hl])
  have hx:=h x ay;have e:sm (dX (x::C))=(x.length:Int)+sm (dX C):=rfl;rw[e];simp only[List.length_cons];refine⟨ac,fun hs l hl=>?_⟩;rcases List.mem_cons.1 hl with rfl|hl
  ·omega
  ·exact b ac l hl
theorem Dq(g:Nat->List Nat)(hg:∀r,(g r).length=4):∀L:List Nat,(L.flatMap g).length=4*L.length
 |[]=>rfl
 |r::L=>by
  rw[List.flatMap_cons,List.length_append,Dq g hg L,hg];simp only[List.length_cons];omega
theorem G8(p:List Int)(n:Nat)(hp:inR n p)(hi:bL n p)(h4:∀x:Nat,x<n->rd p (rd p (rd p (rd p (x:Int))))=x)(h2:∀x:Nat,x<n->rd p (rd p (x:Int))≠x):
 (∀l∈(aE p n n).2,l.length=4)/\4*(aE p n n).2.length=n:=by
 obtain⟨reps,r1,r2,r3,r4⟩:=oK p n hp hi n (Nat.le_refl _)
 have pn:∀x:Nat,x<n->(rd p (x:Int)).toNat<n/\(((rd p (x:Int)).toNat:Nat):Int)=rd p (x:Int):=fun x hx=>by
  have:=hp.2 x hx;omega
 have H4:∀x:Nat,x<n->(rd p (((rd p (((rd p (((rd p (x:Int)).toNat:Nat):Int)).toNat:Nat):Int)).toNat:Nat):Int)).toNat=x:=fun x hx=>by
  obtain⟨a1,a2⟩:=pn x hx;obtain⟨b1,b2⟩:=pn _ a1;obtain⟨c1,c2⟩:=pn _ b1;rw[a2]at b1 b2 c1 c2 ⊢;rw[b2]at c1 c2 ⊢;rw[c2,h4 x hx,Int.toNat_natCast]
 have H2:∀x:Nat,x<n->(rd p (((rd p (x:Int)).toNat:Nat):Int)).toNat≠x:=fun x hx e=>by
  obtain⟨a1,a2⟩:=pn x hx;obtain⟨b1,b2⟩:=pn _ a1;rw[a2]at b2 e;exact h2 x hx ac
 generalize hP:(fun x:Nat=>(rd p (x:Int)).toNat)=P at*;have eP:∀x:Nat,(rd p (x:Int)).toNat=P x:=fun x=>by rw[<-hP]
 simp only[eP]at pn H4 H2
 have st:∀x:Nat,x<n->Reach [p] n x (P x):=fun x hx=>by
  have:=Reach.step (ps:=[p]) (n:=n) (p:=p) ay hx
  rwa [eP]at this
 have four:∀l∈(aE p n n).2,4<=l.length:=by
  intro l hl;obtain⟨q,hq,rfl⟩:=List.mem_iff_getElem.1 hl;have hq':q<reps.length:=ac;have b:=((r3 reps[q]).1 (List.getElem_mem hq')).1
  have el:ak (aE p n n).2 (q:Int)=(aE p n n).2[q]:=by
   unfold ak;rw[Int.toNat_natCast];simp[List.getD,hq]
  have c:∀x:Nat,x<n->Reach [p] n reps[q] x->x∈((aE p n n).2[q]).map Int.toNat:=fun x hx hr=>by
   have:=(r4 q hq' x hx).2 hr;rw[el]at this;exact List.mem_map.2 ⟨_,this,Int.toNat_natCast x⟩
  generalize reps[q]=r at*;have a1:=(pn r b).1;have b1:=(pn _ a1).1;have c1:=(pn _ b1).1;have s1:=st r b;have s2:=s1.trans (st _ a1);have s3:=s2.trans (st _ b1);have j:P r≠r:=fun e=>H2 r b (by rw[e,e])
  have o:=H2 r b
  have v:P (P (P r))≠r:=fun e=>H2 r b (by
   have:=H4 r b;rw[e]at this;rw[this,this])
  have s:P (P r)≠P r:=fun e=>H2 _ a1 (by rw[e,e])
  have w:=H2 _ a1;have m:P (P (P r))≠P (P r):=fun e=>H2 _ b1 (by rw[e,e])
  have nd:([r,P r,P (P r),P (P (P r))]:List Nat).Nodup:=by
   simp only[List.nodup_cons,List.mem_cons,List.not_mem_nil,or_false,not_or,not_false_eq_true,List.nodup_nil,and_true];exact⟨⟨fun e=>j e.symm,fun e=>o e.symm,fun e=>v e.symm⟩,⟨fun e=>s e.symm,fun e=>w e.symm⟩,fun e=>m e.symm⟩
  have:=gG [r,P r,P (P r),P (P (P r))] (((aE p n n).2[q]).map Int.toNat) nd (fun x hx=>by
   simp only[List.mem_cons,List.not_mem_nil,or_false]at hx;rcases hx with rfl|rfl|rfl|rfl
   ·exact c _ b (Reach.refl _ _ _)
   ·exact c _ a1 s1
   ·exact c _ b1 s2
   ·exact c _ c1 s3)
  simpa using this
 have many:n<=4*(aE p n n).2.length:=by
  have:=gG (List.range n) (reps.flatMap fun r=>[r,P r,P (P r),P (P (P r))]) List.nodup_range (fun x hx=>by
   have hx:=List.mem_range.1 hx;obtain⟨y,y1,y2,y3⟩:=pT (Reach [p] n) (fun x=>Reach.refl _ _ x) (fun x y h=>h.symm) (fun x y z h h'=>h.trans h') x;have hy:y<n:=ac;refine List.mem_flatMap.2 ⟨y,(r3 y).2 ⟨hy,y2⟩,?_⟩
   have cl:=jq p n hp hi (fun z=>z=y\/z=P y\/z=P (P y)\/z=P (P (P y))) (fun k hk hs=>by
    rw[eP];rcases hs with rfl|rfl|rfl|rfl
    ·exact .inr (.inl rfl)
    ·exact .inr (.inr (.inl rfl))
    ·exact .inr (.inr (.inr rfl))
    ·exact .inl (H4 y hy))
   have:=(y3 _ cl).1 (.inl rfl);simp only[List.mem_cons,List.not_mem_nil,or_false];exact this)
  rw[Dq _ (fun _=>rfl),List.length_range,r1]at this;exact this
 have hs:=DO p n hp hi;obtain⟨f1,f2⟩:=Ch _ four;rw[hs]at f1 f2;exact⟨f2 ac,ac⟩
def vE(l:List Int)(n:Nat):Nat->Int
 |0=>0
 |d+1=>rd l ((n-1-d:Nat):Int)*16^d+vE l n d
def code(T F:List Int)(n:Nat):Int:=vE T n n*16^n+vE F n n
theorem F3(t nm:List Int)(n:Nat)(ht:inR n t)(hm:inR n nm):inR n (iK t nm n):=jf n _ _ (jf n _ _ (oy nm n) ht) hm
def fc(t f:List Int)(n r:Nat):Int:=code (iK t (cn t f n r) n) (iK f (cn t f n r) n) n
theorem rF(l m:List Int)(k:Nat)(h:k<l.length):rd (l++m) (k:Int)=rd l (k:Int):=by
 rw[dY _ _ (by simp;omega),dY _ _ h,List.getElem_append_left h]
theorem qZ(l m:List Int)(j:Nat)(h:j<m.length):rd (l++m) ((l.length+j:Nat):Int)=rd m (j:Int):=by
 rw[dY _ _ (by simp;omega),dY _ _ h,List.getElem_append_right ac];simp
theorem wE(a b:List Int):∀(n d:Nat),d<n->rd (iW a b n) ((2*d:Nat):Int)=2*rd a (d:Int)/\rd (iW a b n) ((2*d+1:Nat):Int)=2*rd b (d:Int)+1
 |n+1,d,h=>by
  have hl:=rc a b n;simp only[iW];by_cases z:d<n
  · obtain⟨i1,i2⟩:=wE a b n d z
    rw[rF _ _ _ ac,rF _ _ _ ac];exact⟨i1,i2⟩
  · have:d=n:=ac
    subst this;have e0:=qZ (iW a b d) [2*rd a (d:Int),2*rd b (d:Int)+1] 0 ay;have e1:=qZ (iW a b d) [2*rd a (d:Int),2*rd b (d:Int)+1] 1 ay;rw[hl]at e0 e1;exact⟨e0,e1⟩
theorem uQ:∀(n d:Nat),d<n->rd (ig n) ((2*d:Nat):Int)=((2*d+1:Nat):Int)/\rd (ig n) ((2*d+1:Nat):Int)=((2*d:Nat):Int)
 |n+1,d,h=>by
  have hl:=sL n;simp only[ig];by_cases z:d<n
  · obtain⟨i1,i2⟩:=uQ n d z
    rw[rF _ _ _ ac,rF _ _ _ ac];exact⟨i1,i2⟩
  · have:d=n:=ac
    subst this;have e0:=qZ (ig d) [2*(d:Int)+1,2*(d:Int)] 0 ay;have e1:=qZ (ig d) [2*(d:Int)+1,2*(d:Int)] 1 ay;rw[hl]at e0 e1;refine⟨e0.trans ?_,e1.trans ?_⟩
    · show 2*(d:Int)+1=_
      omega
    · show 2*(d:Int)=_
      omega
def EA(t f b:List Int)(n:Nat):Prop:=dE t f n/\n<=6/\inR n b/\(∀d:Nat,d<n->rd b (rd t (rd f (d:Int)))=d)/\∀d:Nat,d<n->rd t (rd f (rd b (d:Int)))=d
theorem Fy(t f:List Int)(n:Nat)(H:dE t f n)(h6:n<=6):EA t f (dD (aX f t n) n n) n:=by
 obtain⟨hn,h1,ht,hti,hf,E,J⟩:=id H;have hm:=jf n f t hf ht
 have inj:bL n (aX f t n):=fun i j hi hj e=>by
  rw[iy f t n i hi,iy f t n j hj]at e;have ri:=hf.2 i hi;have rj:=hf.2 j hj;have e2:(rd f (i:Int)).toNat=(rd f (j:Int)).toNat:=hti _ _ ac ac (by rw[show(((rd f (i:Int)).toNat:Nat):Int)=rd f (i:Int) by omega,show(((rd f (j:Int)).toNat:Nat):Int)=rd f (j:Int) by omega];exact e);have e3:rd f (i:Int)=rd f (j:Int):=ac;have f1:=(E i hi).2;have f2:=(E j hj).2;rw[e3,f2]at f1;omega
 have hb:=oy (aX f t n) n
 have back:∀d:Nat,d<n->rd (dD (aX f t n) n n) (rd t (rd f (d:Int)))=d:=fun d hd=>by
  have:=po (aX f t n) n hm inj n (Nat.le_refl _) d hd
  rwa [iy f t n d hd]at this
 refine⟨H,h6,hb,back,fun d hd=>?_⟩;obtain⟨m,_,h2⟩:=o8 (aX f t n) n hm inj d ac;have hin:=gH (aX f t n) n hm m d ac;rw[iZ]at h2;have h2:rd (aX f t n) (itr (aX f t n) m d)=d:=h2;have ex:(((itr (aX f t n) m d).toNat:Nat):Int)=itr (aX f t n) m d:=ac;have c:=iy f t n (itr (aX f t n) m d).toNat ac;rw[ex,h2]at c;have hb2:=back (itr (aX f t n) m d).toNat ac;rw[ex,<-c]at hb2;rw[hb2,<-c]
theorem half(n x:Nat)(hx:x<2*n):∃d,d<n/\(x=2*d\/x=2*d+1):=⟨x/2,ac,ac⟩
def evn(g:List Int)(d:Nat):Prop:=Int.tmod (rd g (d:Int)) 2=0
instance (g:List Int)(d:Nat):Decidable (evn g d):=inferInstanceAs (Decidable (_=_))
theorem wH{g:List Int}{d:Nat}(h:evn g d):nmE g (d+1)=nmE g d+1:=by
 have h:Int.tmod (rd g (d:Int)) 2=0:=h;simp only[nmE,h,if_true]
theorem Ax{g:List Int}{d:Nat}(h:¬evn g d):nmE g (d+1)=nmE g d:=by
 have h:¬Int.tmod (rd g (d:Int)) 2=0:=h;simp only[nmE,h,if_false]
theorem kP{g:List Int}{d i:Nat}(h:evn g d)(hd:d<i):nmE g d<nmE g i:=by
 have:=CR g (d+1) (i-(d+1));rw[show d+1+(i-(d+1))=i by omega,wH h]at this;omega
theorem uy{g:List Int}{d e:Nat}(h:evn g d)(h':evn g e)(q:nmE g d=nmE g e):d=e:=by
 by_cases h1:d<e
 ·have:=kP h h1;omega
 · by_cases h2:e<d
   ·have:=kP h' h2;omega
   ·omega
theorem kJ(g:List Int):∀i k,k<nmE g i->∃d,d<i/\evn g d/\nmE g d=k
 |0,k,h=>absurd h (by simp[nmE])
 |i+1,k,h=>by
  by_cases e:evn g i
  · rw[wH e]at h
    by_cases q:k=nmE g i
    ·exact⟨i,ac,e,q.symm⟩
    · obtain⟨d,d1,d2⟩:=kJ g i k ac
      exact⟨d,ac,d2⟩
  · rw[Ax e]at h
    obtain⟨d,d1,d2⟩:=kJ g i k h;exact⟨d,ac,d2⟩
theorem yP(g:List Int):∀i,((List.range i).filter fun d=>decide (evn g d)).length=nmE g i
 |0=>rfl
 |i+1=>by
  rw[List.range_succ,List.filter_append,List.length_append,yP g i];by_cases e:evn g i
  ·rw[wH e];simp[e]
  ·rw[Ax e];simp[e]
theorem wM(g t nm:List Int):∀i d:Nat,d<i->evn g d->rd (jc g t nm i) ((nmE g d:Nat):Int)=rd nm (rd t (d:Int))
 |0,d,h,_=>absurd h ac
 |i+1,d,h,e=>by
  by_cases z:evn g i
  · have z':Int.tmod (rd g (i:Int)) 2=0:=z
    simp only[jc,z',if_true];by_cases q:d=i
    · subst q
      have:=oX (jc g t nm d) (rd nm (rd t (d:Int)))
      rwa [sQ]at this
    · rw[mL _ _ _ (by rw[sQ];exact kP e ac)]
      exact wM g t nm i d ac e
  · have z':¬Int.tmod (rd g (i:Int)) 2=0:=z
    simp only[jc,z',if_false];have:d≠i:=fun q=>z (q▸e)
    exact wM g t nm i d ac e
theorem wl(g t fc bk nm:List Int):∀i d:Nat,d<i->evn g d->rd (jX g t fc bk nm i) ((nmE g d:Nat):Int)=qN t fc bk nm d
 |0,d,h,_=>absurd h ac
 |i+1,d,h,e=>by
  by_cases z:evn g i
  · have z':Int.tmod (rd g (i:Int)) 2=0:=z
    simp only[jX,z',if_true];by_cases q:d=i
    · subst q
      have:=oX (jX g t fc bk nm d) (qN t fc bk nm d)
      rwa [sV]at this
    · rw[mL _ _ _ (by rw[sV];exact kP e ac)]
      exact wl g t fc bk nm i d ac e
  · have z':¬Int.tmod (rd g (i:Int)) 2=0:=z
    simp only[jX,z',if_false];have:d≠i:=fun q=>z (q▸e)
    exact wl g t fc bk nm i d ac e
theorem vn{f:Nat->Nat}:∀{L:List Nat},L.Nodup->(∀x∈L,∀y∈L,f x=f y->x=y)->(L.map f).Nodup
 |[],_,_=>by simp
 |a::L,h,hf=>by
  rw[List.nodup_cons]at h;rw[List.map_cons,List.nodup_cons];refine⟨fun hm=>?_,vn h.2 fun x hx y hy=>hf x (by simp[hx]) y (by simp[hy])⟩;obtain⟨x,hx,e⟩:=List.mem_map.1 hm;exact h.1 (hf x (by simp[hx]) a ay e▸hx)
theorem GL(L:List Nat)(p:Nat->Bool):(L.filter p).length+(L.filter fun a=>! p a).length=L.length:=by
 induction L with
 |nil=>rfl
 |cons x L ih=>
  simp only[List.filter_cons];cases p x<;>simp<;>omega
structure Tq (t f g l':List Int) (n:Nat) (τ φ:Nat->Nat):Prop where
 t1:∀d:Nat,d<n->rd t (d:Int)=(τ d:Int)/\τ d<n
 f1:∀d:Nat,d<n->rd f (d:Int)=(φ d:Int)/\φ d<n
 ti:∀d e,d<n->e<n->τ d=τ e->d=e
 ff:∀d,d<n->φ (φ d)=d
 et:∀d,d<n->(evn g (τ d)↔evn g d)
 ef:∀d,d<n->(evn g (φ d)↔¬evn g d)
 four:∀d,d<n->τ (φ (τ (φ (τ (φ (τ (φ d)))))))=d
 two:∀d,d<n->τ (φ (τ (φ d)))≠d
section
variable {t f g l':List Int} {n:Nat} {τ φ:Nat->Nat} (Q:Tq t f g l' n τ φ)
include Q
theorem Tq.half:2*nmE g n=n:=by
 have e0:=yP g n;have nd:((List.range n).filter fun d=>decide (evn g d)).Nodup:=List.nodup_range.filter _;have nu:((List.range n).filter fun d=>! decide (evn g d)).Nodup:=List.nodup_range.filter _;have m1:∀x,x∈(List.range n).filter (fun d=>decide (evn g d))↔x<n/\evn g x:=fun x=>by rw[List.mem_filter,List.mem_range,decide_eq_true_eq]
 have m2:∀x,x∈(List.range n).filter (fun d=>! decide (evn g d))↔x<n/\¬evn g x:=fun x=>by
  rw[List.mem_filter,List.mem_range,Bool.not_eq_true',decide_eq_false_iff_not]
 have i1:=gG (((List.range n).filter fun d=>decide (evn g d)).map φ) _ (vn nd fun x hx y hy e=>by
  rw[<-Q.ff x ((m1 x).1 hx).1,e,Q.ff y ((m1 y).1 hy).1]) fun x hx=>by
  obtain⟨y,hy,rfl⟩:=List.mem_map.1 hx;obtain⟨h1,h2⟩:=(m1 y).1 hy;exact(m2 _).2 ⟨(Q.f1 y h1).2,fun z=>(Q.ef y h1).1 z h2⟩
 have i2:=gG (((List.range n).filter fun d=>! decide (evn g d)).map φ) _ (vn nu fun x hx y hy e=>by
  rw[<-Q.ff x ((m2 x).1 hx).1,e,Q.ff y ((m2 y).1 hy).1]) fun x hx=>by
  obtain⟨y,hy,rfl⟩:=List.mem_map.1 hx;obtain⟨h1,h2⟩:=(m2 y).1 hy;exact(m1 _).2 ⟨(Q.f1 y h1).2,(Q.ef y h1).2 h2⟩
 rw[List.length_map]at i1 i2;have:=GL (List.range n) fun d=>decide (evn g d)
 rw[List.length_range]at this;omega
variable (H:dE t f n) (hl:∀z:Nat,z<n->rd l' (z:Int)=((nmE g z:Nat):Int))
include H hl
theorem Tq.vals{d:Nat}(hd:d<n)(e:evn g d):rd (jc g t l' n) ((nmE g d:Nat):Int)=((nmE g (τ d):Nat):Int)/\rd (jX g t (aX f t n) (dD t n n) l' n) ((nmE g d:Nat):Int)=((nmE g (φ (τ (φ (τ d)))):Nat):Int):=by
 obtain⟨hn,h1,ht,hti,hf,E,J⟩:=id H;have a1:=(Q.t1 d hd).2;have a2:=(Q.f1 _ a1).2;have a3:=(Q.t1 _ a2).2;have a4:=(Q.f1 _ a3).2;have a5:=(Q.t1 _ a4).2;refine⟨by rw[wM g t l' n d hd e,(Q.t1 d hd).1,hl _ a1],?_⟩;rw[wl g t _ _ l' n d hd e];unfold qN;rw[(Q.t1 d hd).1,iy f t n _ a1,(Q.f1 _ a1).1,(Q.t1 _ a2).1,iy f t n _ a3,(Q.f1 _ a3).1,po t n ht hti n (Nat.le_refl _) _ a4,hl _ a4]
theorem Tq.GR:dE (jc g t l' n) (jX g t (aX f t n) (dD t n n) l' n) (nmE g n):=by
 obtain⟨hn,h1,ht,hti,hf,E,J⟩:=id H;have hh:=Q.half;have V:=fun(d:Nat) (hd:d<n) (e:evn g d)=>Q.vals H hl hd e
 have b:∀d,d<n->evn g d->φ (τ (φ (τ d)))<n/\evn g (φ (τ (φ (τ d)))):=fun d hd e=>by
  have a1:=(Q.t1 d hd).2;have a2:=(Q.f1 _ a1).2;have a3:=(Q.t1 _ a2).2;have a4:=(Q.f1 _ a3).2;refine⟨a4,(Q.ef _ a3).2 fun z=>?_⟩;exact(Q.ef _ a1).1 ((Q.et _ a2).1 z) ((Q.et d hd).2 e)
 have o:∀d,d<n->φ (τ (φ (τ (φ (τ (φ (τ d)))))))=d:=fun d hd=>by
  have a1:=(Q.t1 d hd).2;have:=Q.four _ a1;have b1:=(Q.f1 _ a1).2;have b2:=(Q.t1 _ b1).2;have b3:=(Q.f1 _ b2).2;have b4:=(Q.t1 _ b3).2;have b5:=(Q.f1 _ b4).2;have b6:=(Q.t1 _ b5).2;have b7:=(Q.f1 _ b6).2;exact Q.ti _ _ b7 hd this
 refine⟨ac,ac,⟨sQ g t l' n,fun i hi=>?_⟩,fun i j hi hj e=>?_,⟨sV g t _ _ l' n,fun i hi=>?_⟩,fun i hi=>?_,fun i j hi hj S hS=>?_⟩
 · obtain⟨d,d1,d2,rfl⟩:=kJ g n i hi
   have a1:=(Q.t1 d d1).2;have:=kP ((Q.et d d1).2 d2) a1;rw[(V d d1 d2).1];omega
 · obtain⟨d,d1,d2,rfl⟩:=kJ g n i hi
   obtain⟨c,c1,c2,rfl⟩:=kJ g n j hj;rw[(V d d1 d2).1,(V c c1 c2).1]at e;have:=uy ((Q.et d d1).2 d2) ((Q.et c c1).2 c2) ac;rw[Q.ti d c d1 c1 this]
 · obtain⟨d,d1,d2,rfl⟩:=kJ g n i hi
   obtain⟨e1,e2⟩:=b d d1 d2;have:=kP e2 e1;rw[(V d d1 d2).2];omega
 · obtain⟨d,d1,d2,rfl⟩:=kJ g n i hi
   obtain⟨e1,e2⟩:=b d d1 d2;refine⟨?_,?_⟩
   · rw[(V d d1 d2).2]
     intro z;have z:=uy e2 d2 ac;have a1:=(Q.t1 d d1).2;have:=Q.two _ a1;rw[z]at this;exact this rfl
   ·rw[(V d d1 d2).2,(V _ e1 e2).2,o d d1]
 · obtain⟨d,d1,d2,rfl⟩:=kJ g n i hi
   obtain⟨c,c1,c2,rfl⟩:=kJ g n j hj
   have sT:∀x,x<n->evn g x->(S (nmE g x)↔S (nmE g (τ x))):=fun x hx e=>by
    have:=hS _ (List.mem_cons_self ..) (nmE g x) (kP e hx)
    rwa [(V x hx e).1,Int.toNat_natCast]at this
   have sF:∀x,x<n->evn g x->(S (nmE g x)↔S (nmE g (φ (τ (φ (τ x)))))):=fun x hx e=>by
    have:=hS _ (List.mem_cons_of_mem _ (List.mem_singleton.2 rfl)) (nmE g x) (kP e hx)
    rwa [(V x hx e).2,Int.toNat_natCast]at this
   have B:=J d c d1 c1 (fun x=>(evn g x->S (nmE g x))/\(¬evn g x->S (nmE g (φ x)))) fun p hp k hk=>by
    rcases List.mem_cons.1 hp with hp|hp
    · rw[hp,(Q.t1 k hk).1,Int.toNat_natCast]
      have a1:=(Q.t1 k hk).2;have b1:=(Q.f1 k hk).2;by_cases e:evn g k
      · have e':=(Q.et k hk).2 e
        constructor
        ·exact fun h=>⟨fun _=>(sT k hk e).1 (h.1 e),fun z=>absurd e' z⟩
        ·exact fun h=>⟨fun _=>(sT k hk e).2 (h.1 e'),fun z=>absurd e z⟩
      · have e':¬evn g (τ k):=fun z=>e ((Q.et k hk).1 z)
        have ex:evn g (φ k):=(Q.ef k hk).2 e;have ey:evn g (φ (τ k)):=(Q.ef _ a1).2 e';obtain⟨m,_,m2⟩:=o8 t n ht hti (φ k:Nat) ac;have mi:=gH t n ht m ((φ k:Nat):Int) ac;rw[iZ]at m2;have m2:rd t (itr t m ((φ k:Nat):Int))=((φ k:Nat):Int):=m2;generalize hw:(itr t m ((φ k:Nat):Int)).toNat=w;have wn:w<n:=ac;have ew:((w:Nat):Int)=itr t m ((φ k:Nat):Int):=ac;rw[<-ew,(Q.t1 w wn).1]at m2;have tw:τ w=φ k:=Int.ofNat.inj m2;have ow:evn g w:=(Q.et w wn).1 (tw▸ex);have s1:=sT w wn ow;have s2:=sF w wn ow;rw[tw,Q.ff k hk]at s2;rw[tw]at s1;constructor
        ·exact fun h=>⟨fun z=>absurd z e',fun _=>s2.1 (s1.2 (h.2 e))⟩
        ·exact fun h=>⟨fun z=>absurd z e,fun _=>s1.1 (s2.2 (h.2 e'))⟩
    · rw[List.mem_singleton.1 hp,(Q.f1 k hk).1,Int.toNat_natCast]
      by_cases e:evn g k
      · have e':¬evn g (φ k):=fun z=>(Q.ef k hk).1 z e
        constructor
        ·exact fun h=>⟨fun z=>absurd z e',fun _=>by rw[Q.ff k hk];exact h.1 e⟩
        ·exact fun h=>⟨fun _=>by have:=h.2 e';rwa [Q.ff k hk]at this,fun z=>absurd e z⟩
      · have e':=(Q.ef k hk).2 e
        exact⟨fun h=>⟨fun _=>h.2 e,fun z=>absurd e' z⟩,fun h=>⟨fun z=>absurd z e,fun _=>h.1 e'⟩⟩
   constructor
   ·exact fun h=>(B.1 ⟨fun _=>h,fun z=>absurd d2 z⟩).1 c2
   ·exact fun h=>(B.2 ⟨fun _=>h,fun z=>absurd c2 z⟩).1 d2
theorem Tq.iso:∃s,mD n s (iW (jc g t l' n) (dD (aX (jX g t (aX f t n) (dD t n n) l' n) (jc g t l' n) (nmE g n)) (nmE g n) (nmE g n)) (nmE g n)) (ig (nmE g n)) t f:=by
 classical
 have K:=Q.GR H hl;have hh:=Q.half;obtain⟨hn,h1,ht,hti,hf,E,J⟩:=id H;have QO:=Fy _ _ _ K ac;obtain⟨_,_,hb,b1,_⟩:=QO;generalize hB:dD (aX (jX g t (aX f t n) (dD t n n) l' n) (jc g t l' n) (nmE g n)) (nmE g n) (nmE g n)=B at*;have V:=fun(d:Nat) (hd:d<n) (e:evn g d)=>Q.vals H hl hd e
 have W:∀d,d<n->evn g d->φ (τ (φ d))<n/\evn g (φ (τ (φ d)))/\rd B ((nmE g d:Nat):Int)=((nmE g (φ (τ (φ d))):Nat):Int):=fun d hd e=>by
  have a1:=(Q.f1 d hd).2;have a2:=(Q.t1 _ a1).2;have a3:=(Q.f1 _ a2).2;have ex:evn g (φ (τ (φ d))):=(Q.ef _ a2).2 fun z=>(Q.ef d hd).1 ((Q.et _ a1).1 z) e
  have c1:=(Q.t1 _ a3).2;have c2:=(Q.f1 _ c1).2;have c3:=(Q.t1 _ c2).2;have c4:=(Q.f1 _ c3).2;have e4:evn g (φ (τ (φ (τ (φ (τ (φ d))))))):=(Q.ef _ c3).2 fun z=>(Q.ef _ c1).1 ((Q.et _ c2).1 z) ((Q.et _ a3).2 ex)
  have:=b1 (nmE g (φ (τ (φ d)))) (kP ex a3);rw[(V _ a3 ex).2,(V _ c4 e4).1,Q.four d hd]at this;exact⟨a3,ex,this⟩
 have ch:∀k,∃d,k<nmE g n->d<n/\evn g d/\nmE g d=k:=fun k=>by
  by_cases h:k<nmE g n
  · obtain⟨d,d1⟩:=kJ g n k h
    exact⟨d,fun _=>d1⟩
  ·exact⟨0,fun z=>absurd z h⟩
 obtain⟨ev,b⟩:∃ev:Nat->Nat,∀k,k<nmE g n->ev k<n/\evn g (ev k)/\nmE g (ev k)=k:=⟨fun k=>Classical.choose (ch k),fun k=>Classical.choose_spec (ch k)⟩
 have back:∀d,d<n->evn g d->ev (nmE g d)=d:=fun d hd e=>by
  obtain⟨q1,q2,q3⟩:=b (nmE g d) (kP e hd);exact uy q2 e q3
 let s:Nat->Nat:=fun x=>if x%2=0 then ev (x/2)else φ (ev (x/2))
 have se:∀k,s (2*k)=ev k:=fun k=>by
  show(if(2*k)%2=0 then ev (2*k/2)else φ (ev (2*k/2)))=ev k;rw[if_pos ac,show 2*k/2=k by omega]
 have so:∀k,s (2*k+1)=φ (ev k):=fun k=>by
  show(if(2*k+1)%2=0 then ev ((2*k+1)/2)else φ (ev ((2*k+1)/2)))=φ (ev k);rw[if_neg ac,show(2*k+1)/2=k by omega]
 have hx:∀x,x<n->∃k,k<nmE g n/\(x=2*k\/x=2*k+1):=fun x hx=>⟨x/2,ac,ac⟩
 refine⟨s,fun x c=>?_,fun x y c j e=>?_,fun x c=>?_,fun x c=>?_⟩
 · obtain⟨k,hk,rfl|rfl⟩:=hx x c
   ·rw[se];exact(b k hk).1
   ·rw[so];exact(Q.f1 _ (b k hk).1).2
 · obtain⟨k,hk,rfl|rfl⟩:=hx x c<;>obtain⟨m,hm,rfl|rfl⟩:=hx y j
   · rw[se,se]at e
     have a1:=(b k hk).2.2;have a2:=(b m hm).2.2;rw[e]at a1;omega
   · rw[se,so]at e
     have a1:=(b k hk).2.1;rw[e]at a1;exact absurd (b m hm).2.1 ((Q.ef _ (b m hm).1).1 a1)
   · rw[se,so]at e
     have a1:=(b m hm).2.1;rw[<-e]at a1;exact absurd (b k hk).2.1 ((Q.ef _ (b k hk).1).1 a1)
   · rw[so,so]at e
     have e2:ev k=ev m:=by rw[<-Q.ff _ (b k hk).1,e,Q.ff _ (b m hm).1]
     have a1:=(b k hk).2.2;have a2:=(b m hm).2.2;rw[e2]at a1;omega
 · obtain⟨k,hk,rfl|rfl⟩:=hx x c
   · obtain⟨q1,q2,q3⟩:=b k hk
     have v:=(V _ q1 q2).1;rw[q3]at v;rw[(wE _ B _ k hk).1,v,se,(Q.t1 _ q1).1,show(2*((nmE g (τ (ev k)):Nat):Int)).toNat=2*nmE g (τ (ev k)) by omega,se,back _ (Q.t1 _ q1).2 ((Q.et _ q1).2 q2)]
   · obtain⟨q1,q2,q3⟩:=b k hk
     obtain⟨w1,w2,w3⟩:=W _ q1 q2;rw[q3]at w3;have f1:=Q.f1 _ q1;have t1:=Q.t1 _ f1.2;rw[(wE _ B _ k hk).2,w3,so,t1.1,show(2*((nmE g (φ (τ (φ (ev k)))):Nat):Int)+1).toNat=2*nmE g (φ (τ (φ (ev k))))+1 by omega,so,back _ w1 w2,Q.ff _ t1.2]
 · obtain⟨k,hk,rfl|rfl⟩:=hx x c
   · obtain⟨q1,q2,q3⟩:=b k hk
     rw[(uQ _ k hk).1,se,Int.toNat_natCast,so,(Q.f1 _ q1).1]
   · obtain⟨q1,q2,q3⟩:=b k hk
     rw[(uQ _ k hk).2,so,Int.toNat_natCast,se,(Q.f1 _ (Q.f1 _ q1).2).1,Q.ff _ q1]
end
theorem zi(l:List Int)(hl:l.length<=1048576):∀(d:Nat) (i:Nat),l.length-i=d->i<=l.length->Ev (fun k=>fO.l0 k l l i) true
 |0,i,hd,hi=>by
  refine Ev.s ?_;simp only[fO.l0,show ¬(i:Int)<(l.length:Int) by omega,if_false];exact Ev.const rfl
 |d+1,i,hd,hi=>by
  refine Ev.s ?_;simp only[fO.l0,show(i:Int)<(l.length:Int) by omega,show(0:Int)<=i by omega,if_true];rw[w64 (x:=(i:Int)+1) ac ac,show((i:Int)+1)=((i+1:Nat):Int) by omega];exact zi l hl d (i+1) ac ac
theorem vL(l:List Int)(hl:l.length<=1048576):Ev (fun k=>fO.f k l l) true:=by
 unfold fO.f;simp only[if_true];exact zi l hl l.length 0 ac ac
theorem GA(a b:List Int)(ha:a.length<=1048576)(hb:b.length<=1048576):Ev (fun k=>lC.f k a b a b) true:=by
 unfold lC.f;refine Ev.bind (vL a ha) ?_;simp only[if_true];exact Ev.bind (vL b hb) (Ev.const rfl)
section
variable (t f:List Int) (n:Nat) (H:dE t f n) (hm:isMap t f)
include H hm
theorem CG:Ev (fun k=>bu.f k t f) true:=by
 obtain⟨hn,h1,ht,hti,hf,E,J⟩:=id H;have l1:=ht.1;have l2:=hf.1;obtain⟨b,_,b2,b3⟩:=mB t f ac ac;have hb:b=true:=b3.2 hm;subst hb;exact b2
end
def Hp(t f:List Int)(n:Nat):Prop:=n<=12/\1<=n/\inR n t/\bL n t/\inR n f/\(∀i:Nat,i<n->eN f i)/\∀i j:Nat,i<n->j<n->Reach [t,f] n i j
def EN(t f:List Int)(n:Nat):List Int:=(List.range n).map fun(d:Nat)=>rd t (rd f (d:Int))
theorem xC(l:List Int)(n:Nat)(h1:1<=n)(b:n<=12)(hl:inR n l)(hi:bL n l):j6 l:=by
 refine⟨by rw[hl.1];exact h1,by rw[hl.1];exact b,fun i hi'=>?_⟩;rw[hl.1]at hi';have:=hl.2 i hi';refine⟨this.1,by rw[hl.1];exact this.2,fun k hk e=>?_⟩;have:=hi k i ac hi' e;omega
theorem Ek(f:List Int)(n:Nat)(hf:inR n f)(E:∀i:Nat,i<n->eN f i):bL n f:=by
 intro i j hi hj e;have h1:=(E i hi).2;rw[e,(E j hj).2]at h1;omega
theorem Fo{t f:List Int}{n:Nat}(H:Hp t f n):isMap t f:=by
 obtain⟨hn,h1,ht,hti,hf,E,J⟩:=H;refine⟨xC t n h1 hn ht hti,xC f n h1 hn hf (Ek f n hf E),by rw[ht.1,hf.1],?_,?_⟩
 ·rw[hf.1];exact E
 ·rw[hf.1];exact J
theorem EC(t:List Int)(n:Nat)(ht:inR n t)(hti:bL n t)(i:Nat)(hi:i<n):∃j:Nat,j<n/\rd t j=i:=by
 obtain⟨k,_,h2⟩:=o8 t n ht hti i ac;have hin:=gH t n ht k i ac;refine⟨(itr t k i).toNat,ac,?_⟩;rw[show(((itr t k i).toNat:Nat):Int)=itr t k i by omega];have:=iZ t k 1 (i:Int);rw[h2]at this;exact this.symm
theorem wB(t f:List Int)(n:Nat)(H:dE t f n)(h4:∀l∈(aE (aX f t n) n n).2,l.length=4):4*(aE (aX f t n) n n).2.length=n:=by
 obtain⟨hn,h1,ht,hti,hf,E,J⟩:=id H;have b:=jf n f t hf ht
 have inj:bL n (aX f t n):=fun i j hi hj e=>by
  rw[iy f t n i hi,iy f t n j hj]at e;have ri:=hf.2 i hi;have rj:=hf.2 j hj;have e2:(rd f (i:Int)).toNat=(rd f (j:Int)).toNat:=hti _ _ ac ac (by rw[show(((rd f (i:Int)).toNat:Nat):Int)=rd f (i:Int) by omega,show(((rd f (j:Int)).toNat:Nat):Int)=rd f (j:Int) by omega];exact e);have e3:rd f (i:Int)=rd f (j:Int):=ac;have f1:=(E i hi).2;have f2:=(E j hj).2;rw[e3,f2]at f1;omega
 obtain⟨_,hp⟩:=ql _ n b inj h4;exact(G8 _ n b inj (fun x hx=>(hp x hx).1) (fun x hx=>(hp x hx).2.2.1)).2
theorem um{n:Nat}{t f:List Int}(ht:inR n t)(hf:inR n f)(d:Nat)(h:d<n):rd (cmpL t f n) (d:Int)=(nf t (nf f d):Int):=by
 rw[eI t f n d h,(fA hf h).1,(fA ht (fA hf h).2).1]
theorem sc(t f:List Int)(n:Nat)(H:dE t f n)(h4:∀l∈(aE (aX f t n) n n).2,l.length=4):∀l∈(aE (aX f t n) n n).2,vI n t f l:=by
 obtain⟨hn,h1,ht,hti,hf,E,J⟩:=id H;have ep:=oC t f n ht hf;have o:=iz t f n ht hf;have v:=jM t f n ht hti hf (oB f n E);rw[ep]at h4 ⊢;obtain⟨hp,hx⟩:=ql _ n o v h4;intro l hl;obtain⟨a,a1,e⟩:=hp l hl;have sg:=um ht hf;have b:∀d:Nat,d<n->nf t (nf f d)<n:=fun d hd=>(fA ht (fA hf hd).2).2
 have b1:=b a a1;have c1:=b _ b1;have d1:=b _ c1;obtain⟨p1,p2,p3,p4⟩:=hx a a1;obtain⟨q1,q2,q3,q4⟩:=hx _ b1;obtain⟨r1,r2,r3,r4⟩:=hx _ c1;rw[sg a a1,sg _ b1,sg _ c1]at e p1 p4;rw[sg _ d1]at p1;rw[sg a a1]at p2;rw[sg a a1,sg _ b1]at p3;rw[sg _ b1]at q2;rw[sg _ b1,sg _ c1]at q3;rw[sg _ c1]at r2;refine⟨a,_,_,_,e,a1,rfl,rfl,rfl,?_,?_,?_,?_,?_,?_,?_⟩<;>omega
theorem vM(t f:List Int)(n:Nat)(H:dE t f n)(h4:∀l∈(aE (aX f t n) n n).2,l.length=4)(hE:2*(aE t n n).2.length+2*(aE (aX f t n) n n).2.length=4+n)
 (a:Nat)(ha:a<n)(g:List Int)(hg:dG t f n a g):QTok t f g (jK g (aE (aX f t n) n n).2 (List.replicate n (-1))) n:=by
 have Q:=Ho t f n H h4 hE a ha g hg;obtain⟨hn,h1,ht,hti,hf,E,J⟩:=id H
 have G:∀d:Nat,d<n->rd g (d:Int)=(nf g d:Int)/\nf g d<n:=fun d hd=>by
  have:=hg.rng d hd;unfold nf;omega
 have ep:=oC t f n ht hf;have o:=iz t f n ht hf;have v:=jM t f n ht hti hf (oB f n E);refine⟨hn,Q,ht,hf,hg.len,G,by rw[zS,List.length_replicate],fun y hy=>?_⟩;refine(xA Q (fun d hd=>(G d hd).1) _ _ (by rw[List.length_replicate]) (sc t f n H h4) (by rw[ep];exact Hm _ n o v) (fun y hy=>?_) y).1 (by rw[ep];exact Be _ n o v y hy);obtain⟨l,hl,hy⟩:=hy;obtain⟨x0,x1,x2,x3,e,h0,e1,e2,e3,e4,_⟩:=sc t f n H h4 l hl
 have y1:y<n:=by
  have h1:x1<n:=e1▸Q.tr _ (Q.fr _ h0);have h2:x2<n:=e2▸Q.tr _ (Q.fr _ h1);have h3:x3<n:=e3▸Q.tr _ (Q.fr _ h2);rw[e]at hy;simp only[List.mem_cons,List.not_mem_nil,or_false]at hy;omega
 exact lg n (-1) y y1
section
variable {t f g:List Int} {n:Nat} (Q:Qd n (nf t) (nf f) (nf g)) (O:∀d:Nat,d<n->rd g (d:Int)=(nf g d:Int)) (hn:n<=12) (hg:g.length=n) (C:List (List Int)) (hC:∀l∈C,vI n t f l) (hc:C.length<=1000)
include Q O hn hg hC hc
omit hn hg hc in
theorem CJ(i:Nat)(hi:i<C.length):∃x0 x1 x2 x3:Int,ak C (i:Int)=[x0,x1,x2,x3]/\C.drop i=[x0,x1,x2,x3]::C.drop (i+1)/\(0<=x0/\x0<n)/\(0<=x1/\x1<n)/\(0<=x2/\x2<n)/\(0<=x3/\x3<n)/\
 (rd g x1=rd g x0+1\/rd g x1+1=rd g x0)/\(rd g x2=rd g x1+1\/rd g x2+1=rd g x1)/\(rd g x3=rd g x2+1\/rd g x3+1=rd g x2)/\(rd g x0=rd g x3+1\/rd g x0+1=rd g x3):=by
 obtain⟨x0,x1,x2,x3,e,h0,e1,e2,e3,e4,_⟩:=hC C[i] (List.getElem_mem hi);have h1:x1<n:=e1▸Q.tr _ (Q.fr _ h0);have h2:x2<n:=e2▸Q.tr _ (Q.fr _ h1);have h3:x3<n:=e3▸Q.tr _ (Q.fr _ h2);have f0:nf g (nf f x0)=nf g x1:=by rw[<-e1,Q.lt _ (Q.fr _ h0)]
 have f1:nf g (nf f x1)=nf g x2:=by rw[<-e2,Q.lt _ (Q.fr _ h1)]
 have f2:nf g (nf f x2)=nf g x3:=by rw[<-e3,Q.lt _ (Q.fr _ h2)]
 have f3:nf g (nf f x3)=nf g x0:=by rw[<-e4,Q.lt _ (Q.fr _ h3)]
 have s0:=Q.st x0 h0;have s1:=Q.st x1 h1;have s2:=Q.st x2 h2;have s3:=Q.st x3 h3;have g0:=O x0 h0;have g1:=O x1 h1;have g2:=O x2 h2;have g3:=O x3 h3;refine⟨x0,x1,x2,x3,?_,?_,ac,ac,ac,ac,ac,ac,ac,ac⟩
 ·rw[lI _ i hi,e]
 ·rw[List.drop_eq_getElem_cons hi,e]
omit hn in
theorem CL(a:Int)(r:ByteArray×List Int×Bool):∀(d i:Nat) (m:List Int),C.length-i=d->i<=C.length->m.length=n->
 Ev (fun k=>aZ.l1 k a g (jK g (C.drop i) m) C C (C.length:Int) (C.length:Int) t f) r->Ev (fun k=>aZ.l1 k a g m C C (C.length:Int) (i:Int) t f) r
 |d,i,m,e,hi,hm,hr=>by
  by_cases hlt:i<C.length
  · cases d with
    |zero=>omega
    |succ d=>
     obtain⟨x0,x1,x2,x3,e1,e2,y0,y1,y2,y3,s1,s2,s3,s4⟩:=CJ Q O C hC i hlt;refine GY a t f g m C n i hlt hc x0 x1 x2 x3 e1 hg hm y0.1 y0.2 y1.1 y1.2 y2.1 y2.2 y3.1 y3.2 s1 s2 s3 s4 r ?_;refine CL a r d (i+1) _ ac ac (by rw[qQ,hm]) ?_;rw[e2]at hr;exact hr
  · have e2:i=C.length:=ac
    subst e2;rw[List.drop_length]at hr;exact hr
omit hn in
theorem yB(r:List Int):∀(d i:Nat) (m:List Int),C.length-i=d->i<=C.length->m.length=n->
 Ev (fun k=>dk.l1 k g (jK g (C.drop i) m) C (C.length:Int)) r->Ev (fun k=>dk.l1 k g m C (i:Int)) r
 |d,i,m,e,hi,hm,hr=>by
  by_cases hlt:i<C.length
  · cases d with
    |zero=>omega
    |succ d=>
     obtain⟨x0,x1,x2,x3,e1,e2,y0,y1,y2,y3,s1,s2,s3,s4⟩:=CJ Q O C hC i hlt;refine Eu g m C n i hlt hc x0 x1 x2 x3 e1 hg hm y0.1 y0.2 y1.1 y1.2 y2.1 y2.2 y3.1 y3.2 s1 s2 s3 s4 r ?_;refine yB r d (i+1) _ ac ac (by rw[qQ,hm]) ?_;rw[e2]at hr;exact hr
  · have e2:i=C.length:=ac
    subst e2;rw[List.drop_length]at hr;exact hr
end
theorem Bn(t f g:List Int)(n:Nat)(hn:n<=12)(a:Int)(C:List (List Int))(c:Ev (fun k=>dJ.f k f t) (aX f t n))(q:Ev (fun k=>dt.f k (aX f t n)) C)(r:ByteArray×List Int×Bool)
 (hr:Ev (fun k=>aZ.l1 k a g (List.replicate n (-1)) C C (C.length:Int) 0 t f) r):∀(d i:Nat) (m:List Int),n-i=d->i<=n->m.length=n->(∀z:Nat,z<i->rd m z= -1)->
 Ev (fun k=>aZ.l0 k a g m (n:Int) (i:Int) t f) r
 |d,i,m,e,hi,hm,hz=>by
  by_cases hlt:i<n
  · cases d with
    |zero=>omega
    |succ d=>
     refine Ev.s ?_;simp only[aZ.l0,hm,show(i:Int)<(n:Int) by omega,show(0:Int)<=(i:Int) by omega,if_true,Int.toNat_natCast,cM (show i<4611686018427387904 by omega)]
     exact Bn t f g n hn a C c q r hr d (i+1) (m.set i (-1)) ac ac (by simp[hm]) (fun z v=>by
      rw[fN _ _ _ _ ac];split
      ·rfl
      ·exact hz z ac)
  · have e2:i=n:=ac
    subst e2;have em:m=List.replicate i (-1):=jV _ _ (by simp[hm]) fun z v=>by rw[hz z ac,lg i (-1) z ac]
    subst em;refine Ev.s ?_;simp only[aZ.l0,show ¬(i:Int)<(i:Int) by omega,if_false];exact Ev.bind c (Ev.bind q hr)
theorem EG(t f:List Int)(n:Nat)(b:t.length=n)(H:dE t f n)(h4:∀l∈(aE (aX f t n) n n).2,l.length=4)(hE:2*(aE t n n).2.length+2*(aE (aX f t n) n n).2.length=4+n)
 (hQ:Ev (fun k=>fS.f k t f) true)(m point:Nat)(hr:m<n)(hp:point<n)(g:List Int)(hg:dG t f n point g)(N:Ev (fun k=>jh.f k t f (point:Int)) g):
 Ev (fun k=>aZ.f k t f (m:Int) (point:Int)) (if nf g (nf f m)+1=nf g m then(dN t f g m (n/2),stp t f g m (n/2),true)else((⟨#[]⟩:ByteArray),([]:List Int),false)):=by
 have K:=vM t f n H h4 hE point hp g hg;have fc:=wB t f n H h4;have ff:=sc t f n H h4;obtain⟨hn,h1,ht,hti,hf,E,J⟩:=id H;have c:=(vD t f n ac ht hf).2;have o:=jf n f t hf ht;have q:=oR (aX f t n) n ac o;have e:f.length=n:=hf.1;obtain⟨F1,F2⟩:=fA hf hr;obtain⟨g1,g2⟩:=K.gr m hr;obtain⟨g3,g4⟩:=K.gr _ F2;unfold aZ.f;refine Ev.bind hQ ?_;simp only[if_true,b,show ¬(m:Int)<0 by omega,show ¬(m:Int)>=(n:Int) by omega,show ¬(point:Int)<0 by omega,show ¬(point:Int)>=(n:Int) by omega,if_false,decide_false];refine Ev.s ?_;simp only[aZ.j0,Bool.false_eq_true,if_false];refine Ev.bind N ?_;simp only[K.gl,e,F1,g1,g3,show(0:Int)<=(m:Int) by omega,show(m:Int)<(n:Int) by omega,show(0:Int)<=(nf f m:Int) by omega,show(nf f m:Int)<(n:Int) by omega,cM (show nf g (nf f m)<4611686018427387904 by omega),if_true,Option.bind_some,Int.toNat_natCast,show(0:Int)<=(n:Int) by omega,show n<=35184372088832 by omega,List.length_replicate];by_cases hd:nf g (nf f m)+1=nf g m
 · rw[if_pos hd]
   simp only[show(nf g m:Int)=((nf g (nf f m)+1:Nat):Int) by omega,if_true];refine Bn t f g n hn m _ c q _ ?_ n 0 _ ac ac ay (fun z hz=>absurd hz ac);refine CL K.Q (fun d hd=>(K.gr d hd).1) K.gl _ ff ac m _ _ 0 _ rfl ac ay ?_;rw[List.drop_zero];refine Ev.s ?_
   have:=tW K m ⟨hr,hd⟩ (n/2) 0 (List.replicate n false) m ac ac ay (fun y hy=>by
    rw[CO];constructor
    ·intro h;cases h
    ·rintro⟨j,h,_⟩;omega) hr (FN.here hd)
   simp only[aZ.l1,show ¬(((aE (aX f t n) n n).2.length:Nat):Int)<(((aE (aX f t n) n n).2.length:Nat):Int) by omega,if_false,K.gl,show(0:Int)<=(n:Int) by omega,if_true,Int.toNat_natCast,show n<=281474976710656 by omega,w64 (x:=((n/2:Nat):Int)) ac ac,show 2*(((aE (aX f t n) n n).2.length:Nat):Int)=((n/2:Nat):Int) by omega];exact this
 · rw[if_neg hd]
   simp only[show ¬(nf g m:Int)=((nf g (nf f m)+1:Nat):Int) by omega,if_false];exact Ev.const rfl
theorem zA(t f g:List Int)(n:Nat)(hn:n<=12)(b:t.length=n)(C:List (List Int))(c:Ev (fun k=>gq.f k t f) (aX f t n))(q:Ev (fun k=>dl.f k (aX f t n)) C)(r:List Int)
 (hr:Ev (fun k=>dk.l1 k g (List.replicate n (-1)) C 0) r):∀(d i:Nat),n-i=d->i<=n->Ev (fun k=>dk.l0 k g (List.replicate i (-1)) (i:Int) t f) r
 |d,i,e,hi=>by
  by_cases hlt:i<n
  · cases d with
    |zero=>omega
    |succ d=>
     refine Ev.s ?_;simp only[dk.l0,b,show(i:Int)<(n:Int) by omega,if_true,List.length_replicate,show i<17592186044416 by omega,cM (show i<4611686018427387904 by omega)];have:=zA t f g n hn b C c q r hr d (i+1) ac ac;rw[List.replicate_succ']at this;exact this
  · have e2:i=n:=ac
    subst e2;refine Ev.s ?_;simp only[dk.l0,b,show ¬(i:Int)<(i:Int) by omega,if_false];exact Ev.bind c (Ev.bind q hr)
theorem tN(t f:List Int)(n:Nat)(b:t.length=n)(hn:n<=12)(hV:Ev (fun k=>ck.f k t f) true)(a:Int):Ev (fun k=>kS.f k t f a) (decide (0<=a/\a<n)):=by
 unfold kS.f;refine Ev.bind hV ?_;simp only[if_true,b,w64 (x:=(n:Int)-1) ac ac,oq,Option.bind_some];exact Ev.const (congrArg some (decide_eq_decide.2 ⟨fun h=>by omega,fun h=>by omega⟩))
theorem GX(t f:List Int)(n:Nat)(b:t.length=n)(H:dE t f n)(h4:∀l∈(aE (aX f t n) n n).2,l.length=4)(hE:2*(aE t n n).2.length+2*(aE (aX f t n) n n).2.length=4+n)
 (hQ:Ev (fun k=>kr.f k t f) true)(hV:Ev (fun k=>ck.f k t f) true)(m point:Nat)(hr:m<n)(hp:point<n)(g:List Int)(hg:dG t f n point g)(N:Ev (fun k=>bW.f k t f (point:Int)) g):
 Ev (fun k=>bV.f k t f (m:Int) (point:Int)) (if nf g (nf f m)+1=nf g m then(dN t f g m (n/2),stp t f g m (n/2),true)else((⟨#[]⟩:ByteArray),([]:List Int),false)):=by
 have K:=vM t f n H h4 hE point hp g hg;have fc:=wB t f n H h4;have ff:=sc t f n H h4;obtain⟨hn,h1,ht,hti,hf,E,J⟩:=id H;have c:=(vD t f n ac ht hf).1;have o:=jf n f t hf ht;have q:=tz (aX f t n) n ac o;have e:f.length=n:=hf.1;obtain⟨F1,F2⟩:=fA hf hr;obtain⟨g1,g2⟩:=K.gr m hr;obtain⟨g3,g4⟩:=K.gr _ F2;have d1:=tN t f n b hn hV (m:Int);have d2:=tN t f n b hn hV (point:Int);rw[decide_eq_true ac]at d1 d2;unfold bV.f;refine Ev.bind hQ ?_;simp only[if_true];refine Ev.bind d1 ?_;simp only[if_true];refine Ev.bind d2 ?_;refine Ev.s ?_;simp only[bV.j0,Bool.not_true,Bool.false_eq_true,if_false];refine Ev.bind N ?_;simp only[K.gl,e,F1,g1,g3,show(0:Int)<=(m:Int) by omega,show(m:Int)<(n:Int) by omega,show(0:Int)<=(nf f m:Int) by omega,show(nf f m:Int)<(n:Int) by omega,cM (show nf g (nf f m)<4611686018427387904 by omega),if_true];by_cases hd:nf g (nf f m)+1=nf g m
 · rw[if_pos hd]
   simp only[show(nf g m:Int)=((nf g (nf f m)+1:Nat):Int) by omega,if_true]
   have r:Ev (fun k=>dk.f k t f g) (jK g (aE (aX f t n) n n).2 (List.replicate n (-1))):=by
    unfold dk.f;refine zA t f g n hn b _ c q _ ?_ n 0 ac ac;refine yB K.Q (fun d hd=>(K.gr d hd).1) K.gl _ ff ac _ _ 0 _ rfl ac ay ?_;rw[List.drop_zero];refine Ev.s ?_;simp only[dk.l1,show ¬(((aE (aX f t n) n n).2.length:Nat):Int)<(((aE (aX f t n) n n).2.length:Nat):Int) by omega,if_false];exact Ev.const rfl
   refine Ev.bind r ?_
   have:=AJ K m ⟨hr,hd⟩ (n/2) 0 (List.replicate n false) m ac ac ay (fun y hy=>by
    rw[CO];constructor
    ·intro h;cases h
    ·rintro⟨j,h,_⟩;omega) hr (FN.here hd)
   simp only[K.ml,show(0:Int)<=(n:Int) by omega,if_true,Int.toNat_natCast,show n<=281474976710656 by omega];exact this
 · rw[if_neg hd]
   simp only[show ¬(nf g m:Int)=((nf g (nf f m)+1:Nat):Int) by omega,if_false];exact Ev.const rfl
theorem E8(t f:List Int)(ht:t.length<=1048576)(hf:f.length<=1048576)(m point:Int):∃(s:ByteArray) (l:List Int) (b:Bool),Ev (fun k=>bV.f k t f m point) (s,l,b)/\Ev (fun k=>aZ.f k t f m point) (s,l,b)/\s.size<=1048576/\l.length<=1048576/\
 (b=true->∃r p:Nat,m=(r:Int)/\point=(p:Int)/\r<t.length/\p<t.length/\isMap t f/\dE t f t.length/\(∀l∈(aE (aX f t t.length) t.length t.length).2,l.length=4)/\2*(aE t t.length t.length).2.length+2*(aE (aX f t t.length) t.length t.length).2.length=4+t.length/\
   ∃g,dG t f t.length p g/\nf g (nf f r)+1=nf g r/\s=dN t f g r (t.length/2)/\l=stp t f g r (t.length/2)):=by
 have e:∀(P:Prop),Ev (fun k=>bV.f k t f m point) ((⟨#[]⟩:ByteArray),([]:List Int),false)->Ev (fun k=>aZ.f k t f m point) ((⟨#[]⟩:ByteArray),([]:List Int),false)->
  ∃(s:ByteArray) (l:List Int) (b:Bool),Ev (fun k=>bV.f k t f m point) (s,l,b)/\Ev (fun k=>aZ.f k t f m point) (s,l,b)/\s.size<=1048576/\l.length<=1048576/\(b=true->∃r p:Nat,m=(r:Int)/\point=(p:Int)/\r<t.length/\p<t.length/\isMap t f/\dE t f t.length/\(∀l∈(aE (aX f t t.length) t.length t.length).2,l.length=4)/\2*(aE t t.length t.length).2.length+2*(aE (aX f t t.length) t.length t.length).2.length=4+t.length/\
  ∃g,dG t f t.length p g/\nf g (nf f r)+1=nf g r/\s=dN t f g r (t.length/2)/\l=stp t f g r (t.length/2)):=fun _ e1 e2=>
  ⟨_,_,false,e1,e2,af,af,fun h=>by cases h⟩
 obtain⟨q,q1,q2,q3⟩:=Fx t f ht hf;cases q with
 |false=>
  refine e True ?_ ?_
  · unfold bV.f
    refine Ev.bind q1 ?_;simp only[Bool.false_eq_true,if_false];refine Ev.s ?_;simp only[bV.j0,if_true];exact Ev.const rfl
  · unfold aZ.f
    refine Ev.bind q2 ?_;simp only[Bool.false_eq_true,if_false];refine Ev.s ?_;simp only[aZ.j0,if_true];exact Ev.const rfl
 |true=>
  obtain⟨hm,H,h4,hE⟩:=q3 rfl;obtain⟨b,b1,b2,b3⟩:=mB t f ht hf;have hb:b=true:=b3.2 hm;subst hb;have hn:=H.1;have D:=fun a=>tN t f t.length rfl hn b1 a
  by_cases hin:(0<=m/\m<(t.length:Int))/\(0<=point/\point<(t.length:Int))
  · obtain⟨g,g1,g2,g3⟩:=uO t f t.length H point.toNat ac
    have i1:=EG t f t.length rfl H h4 hE q2 m.toNat point.toNat ac ac g g1 g3;have i2:=GX t f t.length rfl H h4 hE q1 b1 m.toNat point.toNat ac ac g g1 g2;rw[show((m.toNat:Nat):Int)=m by omega,show((point.toNat:Nat):Int)=point by omega]at i1 i2;by_cases hd:nf g (nf f m.toNat)+1=nf g m.toNat
    · rw[if_pos hd]at i1 i2
      have z1:=rk t f g m.toNat (t.length/2);have z2:=tl t f g m.toNat (t.length/2);exact⟨_,_,true,i2,i1,ac,ac,fun _=>⟨m.toNat,point.toNat,ac,ac,ac,ac,hm,H,h4,hE,g,g1,hd,rfl,rfl⟩⟩
    · rw[if_neg hd]at i1 i2
      exact e True i2 i1
  · refine e True ?_ ?_
    · have c:Ev (fun k=>bV.j0 k m point true t f) ((⟨#[]⟩:ByteArray),([]:List Int),false):=by
       refine Ev.s ?_;simp only[bV.j0,if_true];exact Ev.const rfl
      unfold bV.f;refine Ev.bind q1 ?_;simp only[if_true];refine Ev.bind (D m) ?_;by_cases h1:0<=m/\m<(t.length:Int)
      · rw[decide_eq_true h1]
        simp only[if_true];refine Ev.bind (D point) ?_;rw[decide_eq_false (fun h2=>hin ⟨h1,h2⟩)];exact c
      · rw[decide_eq_false h1]
        simp only[Bool.false_eq_true,if_false];exact c
    · have c:Ev (fun k=>aZ.j0 k m point true t f) ((⟨#[]⟩:ByteArray),([]:List Int),false):=by
       refine Ev.s ?_;simp only[aZ.j0,if_true];exact Ev.const rfl
      unfold aZ.f;refine Ev.bind q2 ?_;simp only[if_true];by_cases h1:m<0
      · simp only[h1,if_true]
        exact c
      · by_cases h2:m>=(t.length:Int)
        · simp only[h1,h2,if_true,if_false]
          exact c
        · by_cases h3:point<0
          · simp only[h1,h2,h3,if_true,if_false]
            exact c
          · simp only[h1,h2,h3,if_false,decide_eq_true (show point>=(t.length:Int) by omega)]
            exact c
theorem Gs(a b:Int)(ha:0<=a)(hb:0<=b)(T:a<9223372036854775808)(q:b<9223372036854775808):0<=Go.bits .xor .i64 a b:=by
 obtain⟨n,rfl⟩:=Int.eq_ofNat_of_zero_le ha;obtain⟨m,rfl⟩:=Int.eq_ofNat_of_zero_le hb;have hn:n%2^64=n:=Nat.mod_eq_of_lt ac;have hm:m%2^64=m:=Nat.mod_eq_of_lt ac;have hx:n^^^m<2^63:=Nat.xor_lt_two_pow ac ac
 have e:Go.bits .xor .i64 (n:Int) (m:Int)=IntKind.i64.wrap ((n^^^m:Nat):Int):=by
  simp only[Go.bits,BitVec.ofInt_natCast];show IntKind.i64.wrap (((BitVec.ofNat 64 n^^^BitVec.ofNat 64 m).toNat:Nat):Int)=_;rw[BitVec.toNat_xor,BitVec.toNat_ofNat,BitVec.toNat_ofNat,hn,hm]
 rw[e,IntKind.wrap_i64];omega
def gS(l:List Int):Prop:=l.length<=2000/\∀x∈l,0<=x/\x<=255
theorem uX(l:List Int)(h:gS l)(i:Int):0<=rd l i/\rd l i<=255:=by
 unfold rd;by_cases hi:i.toNat<l.length
 · rw[List.getD_eq_getElem?_getD,List.getElem?_eq_getElem hi]
   exact h.2 _ (List.getElem_mem hi)
 · rw[List.getD_eq_getElem?_getD,List.getElem?_eq_none ac]
   decide
theorem iI(l:List Int)(h:gS l)(p:Int)(hp:0<=p)(hp':p<=1000000)(n:Int)(hn:1<=n)(w:n<=1000000):∃v,Ev (fun k=>cd.f k l p n) (v,p+1)/\0<=v/\v<n:=by
 have w0:wrap64 (p+1)=p+1:=w64 ac ac;have w1:wrap64 (p+1-1)=p:=by rw[w64 ac ac];omega
 have hl:=h.1;unfold cd.f;simp only[show ¬n<1 by omega,if_false,w0];by_cases hz:l.length=0
 · refine⟨0,Ev.s ?_,ac,ac⟩
   have:(((l.length:Int))==0)=true:=by simp[hz]
   simp only[this,cd.j0,if_true];exact Ev.const rfl
 · have hb:(((l.length:Int))==0)=false:=by rw[beq_eq_false_iff_ne];omega
   have j:¬n=0:=ac;by_cases hlt:p<(l.length:Int)
   · have hr:=uX l h p
     have wr:wrap64 (rd l p)=rd l p:=w64 ac ac;refine⟨Int.tmod (rd l p) n,Ev.s ?_,Int.tmod_nonneg _ ac,Int.tmod_lt_of_pos _ ac⟩;simp only[hb,cd.j0,w1,hlt,hp,j,wr,Bool.false_eq_true,if_true,if_false];exact Ev.const rfl
   · have o:¬(l.length:Int)=0:=ac
     have wk:wrap64 (p*7)=p*7:=w64 ac ac;have m:wrap64 (p*7+3)=p*7+3:=w64 ac ac;have t1:=Int.tmod_nonneg (a:=p) (l.length:Int) hp;have t2:=Int.tmod_lt_of_pos p (b:=(l.length:Int)) ac;have t3:=Int.tmod_nonneg (a:=p*7+3) (l.length:Int) ac;have t4:=Int.tmod_lt_of_pos (p*7+3) (b:=(l.length:Int)) ac;have r1:=uX l h (Int.tmod p (l.length:Int));have r2:=uX l h (Int.tmod (p*7+3) (l.length:Int));have d1:0<=Int.tdiv p (l.length:Int):=Int.tdiv_nonneg hp ac;have d2:Int.tdiv p (l.length:Int)<=p:=Int.tdiv_le_self _ hp
     obtain⟨X,hX,e,q⟩:∃X,(wrap64 ((wrap64 ((wrap64 ((wrap64 ((wrap64 (rd l (Int.tmod p (l.length:Int))))*131))+(wrap64 ((wrap64 (rd l (Int.tmod (p*7+3) (l.length:Int))))*1117))))+(wrap64 (p*29))))+(wrap64 ((wrap64 (Int.tdiv p (l.length:Int)))*53))))=X/\0<=X/\X<4611686018427387904:=by
      refine⟨_,rfl,?_,?_⟩
      all_goals
       generalize rd l (Int.tmod p (l.length:Int))=a at*;generalize rd l (Int.tmod (p*7+3) (l.length:Int))=b at*;generalize Int.tdiv p (l.length:Int)=c at*;rw[w64 (x:=a) ac ac,w64 (x:=b) ac ac,w64 (x:=a*131) ac ac,w64 (x:=b*1117) ac ac,w64 (x:=a*131+b*1117) ac ac,w64 (x:=p*29) ac ac,w64 (x:=a*131+b*1117+p*29) ac ac,w64 (x:=c) ac ac,w64 (x:=c*53) ac ac,w64 (x:=a*131+b*1117+p*29+c*53) ac ac];omega
     have hd:0<=wrap64 (Int.tdiv X 64)/\wrap64 (Int.tdiv X 64)<9223372036854775808:=by
      have:=Int.tdiv_nonneg e (show(0:Int)<=64 by decide);have:=Int.tdiv_le_self 64 e;rw[w64 ac ac];omega
     have hx:=Gs X (wrap64 (Int.tdiv X 64)) e hd.1 ac hd.2;refine⟨Int.tmod (Go.bits .xor .i64 X (wrap64 (Int.tdiv X 64))) n,Ev.s ?_,Int.tmod_nonneg _ hx,Int.tmod_lt_of_pos _ ac⟩;simp only[hb,cd.j0,w1,hlt,o,wk,m,t1,t2,t3,t4,j,hX,Bool.false_eq_true,if_true,if_false];exact Ev.const rfl
theorem FA(l:List Int)(hb:∀x∈l,(Lit.int .u8 x).wf=true):∃l',nt.f l=some (l',0)/\gS l':=by
 have q:∀x∈l,0<=x/\x<=255:=by
  intro x hx;have:=hb x hx;simp only[Lit.wf,IntKind.min,IntKind.max,IntKind.signed,IntKind.bits,Bool.and_eq_true,decide_eq_true_eq,Bool.false_eq_true,if_false]at this;omega
 unfold nt.f;by_cases h:(l.length:Int)>2000
 · refine⟨l.take 2000,?_,?_,fun x hx=>q x (List.mem_of_mem_take hx)⟩
   ·rw[if_pos h,if_pos ac]
   ·rw[List.length_take];omega
 ·exact⟨l,by rw[if_neg h],ac,q⟩
theorem E5(l:List Int)(h:gS l)(p:Int)(hp:0<=p)(hp':p<=1000000)(L:List ByteArray)(h1:1<=L.length)(h2:L.length<=100):∃v:Int,Ev (fun k=>mW.f k l p L) (cP ByteArray.empty L v,p+1)/\0<=v/\v<L.length:=by
 obtain⟨v,hv,v0,v1⟩:=iI l h p hp hp' (L.length:Int) ac ac;refine⟨v,?_,v0,v1⟩;unfold mW.f;refine Ev.bind hv ?_;simp only[v0,v1,if_true];exact Ev.const rfl
theorem rL(s:ByteArray)(b:UInt8):(s++(⟨#[b]⟩:ByteArray)).size=s.size+1:=by
 rw[ByteArray.size_append];rfl
theorem FX(l:List Int)(h:gS l)(n up p:Int)(s:ByteArray)(st:List Int)(hn:1<=n)(w:n<=4)(hs:¬(s.size:Int)<2*n)(G:s.size<=8)(h1:1<=st.length)(h8:st.length<=8)(hp:0<=p)(hp':p<=10000):
 ∃s' b p',Ev (fun k=>bQ.l0 k n up l p s st) (s',b,p')/\s'.size<=10/\b.length<=10/\0<=p'/\p'<=p+3:=by
 have w2:wrap64 (2*n)=2*n:=w64 ac ac;obtain⟨v,hv,v0,v1⟩:=iI l h p hp ac 40 ac ac;by_cases c0:v=0
 · obtain⟨q,hq,q0,q1⟩:=E5 l h (p+1) ac ac ([(⟨#[40]⟩:ByteArray),(⟨#[41]⟩:ByteArray),(⟨#[120]⟩:ByteArray),(⟨#[40,41]⟩:ByteArray)]:List ByteArray) af af
   have hz:(cP ByteArray.empty ([(⟨#[40]⟩:ByteArray),(⟨#[41]⟩:ByteArray),(⟨#[120]⟩:ByteArray),(⟨#[40,41]⟩:ByteArray)]:List ByteArray) q).size<=2:=by
    have hc:q=0\/q=1\/q=2\/q=3:=by
     have:q<4:=q1;omega
    rcases hc with rfl|rfl|rfl|rfl<;>decide
   generalize cP ByteArray.empty ([(⟨#[40]⟩:ByteArray),(⟨#[41]⟩:ByteArray),(⟨#[120]⟩:ByteArray),(⟨#[40,41]⟩:ByteArray)]:List ByteArray) q=y at hq hz;refine⟨s++y,st,p+1+1,Ev.s ?_,?_,ac⟩
   · simp only[bQ.l0,w2,hs,if_false]
     refine Ev.bind hv ?_;simp only[c0,if_true];refine Ev.bind hq ?_;simp only[show s.size+y.size<=9223372036854775807 by omega,if_true];exact Ev.const rfl
   ·rw[ByteArray.size_append];omega
 · by_cases c1:v=1
   · obtain⟨q,hq,q0,q1⟩:=iI l h (p+1) ac ac 2 ac ac
     refine⟨s,st.set (Int.toNat 0) (rd [(-2),2] q),p+1+1,Ev.s ?_,ac,by simp;omega⟩;simp only[bQ.l0,w2,hs,if_false];refine Ev.bind hv ?_;simp only[c1,show ¬((1:Int)=0) by decide,if_false,if_true,Option.bind_some];refine Ev.bind hq ?_;simp only[q0,show q<(([(-2),2]:List Int).length:Int)from q1,show(0:Int)<(st.length:Int) by omega,if_true];exact Ev.const rfl
   · by_cases c2:v=2
     · refine⟨s,st.drop (Int.toNat 1),p+1,Ev.s ?_,ac,by simp;omega⟩
       simp only[bQ.l0,w2,hs,if_false];refine Ev.bind hv ?_;simp only[c2,show ¬((2:Int)=0) by decide,show ¬((2:Int)=1) by decide,show(1:Int)<=(st.length:Int) by omega,if_false,if_true];exact Ev.const rfl
     · refine⟨s,st,p+1,Ev.s ?_,ac,ac⟩
       simp only[bQ.l0,w2,hs,if_false];refine Ev.bind hv ?_;simp only[c0,c1,c2,if_false];exact Ev.const rfl
theorem uD(l:List Int)(h:gS l)(n:Int)(hn:1<=n)(w:n<=4):∀(d:Nat) (up p:Int) (s:ByteArray) (st:List Int),0<=up->up<=st.length->(s.size:Int)+up=2*st.length->2*n-s.size=d->0<=p->p+2*d<=1000->
 ∃s' b p',Ev (fun k=>bQ.l0 k n up l p s st) (s',b,p')/\s'.size<=10/\b.length<=10/\0<=p'/\p'<=p+2*(d:Int)+3
 |0,up,p,s,st,hu,hu',hs,hd,hp,hp'=>by
  obtain⟨s',b,p',e,z1,z2,z3,z4⟩:=FX l h n up p s st hn w ac ac ac ac hp ac;exact⟨s',b,p',e,z1,z2,z3,ac⟩
 |d+1,up,p,s,st,hu,hu',hs,hd,hp,hp'=>by
  have w2:wrap64 (2*n)=2*n:=w64 ac ac;have wm:wrap64 (up-1)=up-1:=w64 ac ac;have wp:wrap64 (up+1)=up+1:=w64 ac ac;have hlt:(s.size:Int)<2*n:=ac;have c:s.size+1<=9223372036854775807:=ac;have m:st.length<17592186044416:=ac
  have down:∀p1:Int,0<=p1->p1<=p+2->up>0->∃s' b p',Ev (fun k=>bQ.l0 k n (up-1) l p1 (s++(⟨#[41]⟩:ByteArray)) st) (s',b,p')/\s'.size<=10/\b.length<=10/\0<=p'/\p'<=p1+2*(d:Int)+3:=fun p1 h0 h1 o=>
   uD l h n hn w d (up-1) p1 _ st ac ac (by rw[rL];omega) (by rw[rL];omega) h0 ac
  have over:∀(p1 x:Int),0<=p1->p1<=p+2->∃s' b p',Ev (fun k=>bQ.l0 k n (up+1) l p1 (s++(⟨#[40]⟩:ByteArray)) (st++[x])) (s',b,p')/\s'.size<=10/\b.length<=10/\0<=p'/\p'<=p1+2*(d:Int)+3:=fun p1 x h0 h1=>
   uD l h n hn w d (up+1) p1 _ _ ac (by simp;omega) (by rw[rL];simp;omega) (by rw[rL];omega) h0 ac
  by_cases c1:up>0
  · by_cases c2:(st.length:Int)=n
    · obtain⟨s',b,p',e,z1,z2⟩:=down p hp ac c1
      refine⟨s',b,p',Ev.s ?_,z1,ac⟩;simp only[bQ.l0,w2,hlt,c1,c2,c,wm,if_true];exact e
    · obtain⟨v,hv,v0,v1⟩:=iI l h p hp ac 2 ac ac
      by_cases c3:v=0
      · obtain⟨s',b,p',e,z1,z2⟩:=down (p+1) ac ac c1
        refine⟨s',b,p',Ev.s ?_,z1,ac⟩;simp only[bQ.l0,w2,hlt,c1,c2,if_true,if_false];refine Ev.bind hv ?_;simp only[c3,c,wm,if_true];exact e
      · obtain⟨q,hq,q0,q1⟩:=iI l h (p+1) ac ac 3 ac ac
        obtain⟨s',b,p',e,z1,z2⟩:=over (p+1+1) (wrap64 (q-1)) ac ac;refine⟨s',b,p',Ev.s ?_,z1,ac⟩;simp only[bQ.l0,w2,hlt,c1,c2,if_true,if_false];refine Ev.bind hv ?_;simp only[c3,c,if_true,if_false];refine Ev.bind hq ?_;simp only[m,wp,if_true];exact e
  · obtain⟨q,hq,q0,q1⟩:=iI l h p hp ac 3 ac ac
    obtain⟨s',b,p',e,z1,z2⟩:=over (p+1) (wrap64 (q-1)) ac ac;refine⟨s',b,p',Ev.s ?_,z1,ac⟩;simp only[bQ.l0,w2,hlt,c1,c,if_true,if_false];refine Ev.bind hq ?_;simp only[m,wp,if_true];exact e
theorem HD(l:List Int)(h:gS l)(p:Int)(hp:0<=p)(hp':p<=900)(most:Int)(hm:1<=most)(hm':most<=4):∃s st p',Ev (fun k=>bQ.f k l p most) (s,st,p')/\s.size<=10/\st.length<=10/\0<=p'/\p'<=p+30:=by
 obtain⟨v,hv,v0,v1⟩:=iI l h p hp ac most hm ac
 obtain⟨s,st,p',e,z1,z2,z3,z4⟩:=uD l h (1+v) ac ac (2*(1+v)).toNat 0 (p+1) (⟨#[]⟩:ByteArray) [] ac ay aW (by
  show 2*(1+v)-((0:Nat):Int)=_;omega) ac ac
 refine⟨s,st,p',?_,z1,z2,z3,ac⟩;unfold bQ.f;refine Ev.bind hv ?_;rw[w64 (x:=1+v) ac ac];exact e
theorem Cc(o:List Int)(i:Nat)(ho:inR i o)(hi:bL i o):inR (i+1) (o++[(i:Int)])/\bL (i+1) (o++[(i:Int)]):=by
 have last:rd (o++[(i:Int)]) (i:Int)=i:=by
  rw[dY _ _ (by simp[ho.1]),List.getElem_append_right (by rw[ho.1];exact Nat.le_refl _)];simp
 have old:∀j:Nat,j<i->rd (o++[(i:Int)]) (j:Int)=rd o (j:Int):=fun j hj=>qy _ _ _ (by rw[ho.1];exact hj)
 refine⟨⟨by simp[ho.1],fun j hj=>?_⟩,fun j k hj hk e=>?_⟩
 · by_cases h:j<i
   · rw[old j h]
     have:=ho.2 j h;omega
   · rw[show j=i by omega,last]
     omega
 · by_cases h:j<i
   · have a:=ho.2 j h
     by_cases h':k<i
     · rw[old j h,old k h']at e
       exact hi j k h h' e
     · rw[show k=i by omega,last,old j h]at e
       omega
   · by_cases h':k<i
     · have a:=ho.2 k h'
       rw[show j=i by omega,last,old k h']at e;omega
     ·omega
theorem set_perm(o:List Int)(n a b:Nat)(ho:inR n o)(hi:bL n o)(ha:a<n)(hb:b<n):inR n ((o.set a (rd o b)).set b (rd o a))/\bL n ((o.set a (rd o b)).set b (rd o a)):=by
 have c:∀j:Nat,j<n->rd ((o.set a (rd o b)).set b (rd o a)) (j:Int)=if b=j then rd o a else if a=j then rd o b else rd o j:=by
  intro j hj;by_cases e1:b=j
  · subst e1
    rw[iE _ _ _ (by simp[ho.1];exact hb),if_pos rfl]
  · rw[gV _ _ _ _ e1,if_neg e1]
    by_cases e2:a=j
    · subst e2
      rw[iE _ _ _ (by rw[ho.1];exact ha),if_pos rfl]
    ·rw[gV _ _ _ _ e2,if_neg e2]
 have ra:=ho.2 a ha;have rb:=ho.2 b hb;refine⟨⟨by simp[ho.1],fun j hj=>?_⟩,fun j k hj hk e=>?_⟩
 · rw[c j hj]
   have:=ho.2 j hj;split
   ·exact ra
   · split
     ·exact rb
     ·exact this
 · rw[c j hj,c k hk]at e
   have i1:=hi a b ha hb;have i2:=hi a j ha hj;have i3:=hi a k ha hk;have i4:=hi b j hb hj;have i5:=hi b k hb hk;have i6:=hi j k hj hk;by_cases c1:b=j
   · rw[if_pos c1]at e
     by_cases c2:b=k
     ·omega
     · rw[if_neg c2]at e
       by_cases c3:a=k
       · rw[if_pos c3]at e
         have:=i1 e;omega
       · rw[if_neg c3]at e
         exact absurd (i3 e) c3
   · rw[if_neg c1]at e
     by_cases c4:a=j
     · rw[if_pos c4]at e
       by_cases c2:b=k
       · rw[if_pos c2]at e
         have:=i1 e.symm;omega
       · rw[if_neg c2]at e
         by_cases c3:a=k
         ·omega
         · rw[if_neg c3]at e
           exact absurd (i5 e) c2
     · rw[if_neg c4]at e
       by_cases c2:b=k
       · rw[if_pos c2]at e
         exact absurd (i2 e.symm) c4
       · rw[if_neg c2]at e
         by_cases c3:a=k
         · rw[if_pos c3]at e
           exact absurd (i4 e.symm) c1
         · rw[if_neg c3]at e
           exact i6 e
theorem EZ(o:List Int)(i k:Nat)(hk:k<i)(ho:inR i o)(hi:bL i o):inR (i+1) ((o++[rd o k]).set k (i:Int))/\bL (i+1) ((o++[rd o k]).set k (i:Int)):=by
 obtain⟨p1,p2⟩:=Cc o i ho hi
 have e:((o++[(i:Int)]).set k (rd (o++[(i:Int)]) i)).set i (rd (o++[(i:Int)]) k)=(o++[rd o k]).set k (i:Int):=by
  have last:rd (o++[(i:Int)]) (i:Int)=i:=by
   rw[dY _ _ (by simp[ho.1]),List.getElem_append_right (by rw[ho.1];exact Nat.le_refl _)];simp
  have b:∀v:Int,rd (o++[v]) (i:Int)=v:=by
   intro v;rw[dY _ _ (by simp[ho.1]),List.getElem_append_right (by rw[ho.1];exact Nat.le_refl _)];simp
  refine jV _ _ ay fun j hj=>?_
  have F:j<i+1:=by simp[ho.1]at hj;omega
  have l1:(o++[(i:Int)]).length=i+1:=by simp[ho.1]
  have l2:(o++[rd o k]).length=i+1:=by simp[ho.1]
  rw[last,qy o _ k (by rw[ho.1];exact hk)];by_cases e1:i=j
  · subst e1
    rw[iE _ _ _ (by simp[ho.1]),gV _ _ _ _ ac,b]
  · rw[gV _ _ _ _ e1]
    by_cases e2:k=j
    · subst e2
      rw[iE _ _ _ ac,iE _ _ _ ac]
    ·rw[gV _ _ _ _ e2,gV _ _ _ _ e2,qy _ _ _ (by rw[ho.1];omega),qy _ _ _ (by rw[ho.1];omega)]
 have:=set_perm (o++[(i:Int)]) (i+1) k i p1 p2 ac ac
 rwa [e]at this
theorem vy(l:List Int)(h:gS l)(n:Nat)(hn:n<=100):∀(d i:Nat) (o:List Int) (p:Int),n-i=d->i<=n->inR i o->bL i o->0<=p->p+d<=1000->∃(o':List Int),Ev (fun k=>fG.l0 k n o i l p) (o',p+d)/\inR n o'/\bL n o'
 |0,i,o,p,hd,hi,ho,hoi,hp,hp'=>by
  have:i=n:=ac;subst this;refine⟨o,Ev.s ?_,ho,hoi⟩;simp only[fG.l0,show ¬(i:Int)<(i:Int) by omega,if_false];exact Ev.const ay
 |d+1,i,o,p,hd,hi,ho,hoi,hp,hp'=>by
  obtain⟨v,hv,v0,v1⟩:=iI l h p hp ac ((i+1:Nat):Int) ac ac;have w1:i<4611686018427387904:=ac;have w2:o.length<17592186044416:=by rw[ho.1];omega
  have w3:o.length=i:=ho.1;by_cases e:v=(i:Int)
  · obtain⟨q1,q2⟩:=Cc o i ho hoi
    obtain⟨o',r1,r2,r3⟩:=vy l h n hn d (i+1) _ (p+1) ac ac q1 q2 ac ac;refine⟨o',Ev.s ?_,r2,r3⟩;simp only[fG.l0,show(i:Int)<(n:Int) by omega,if_true,cM w1];refine Ev.bind hv ?_;simp only[e,w2,if_true];rw[show p+((d+1:Nat):Int)=p+1+d by omega];exact r1
  · obtain⟨q1,q2⟩:=EZ o i v.toNat ac ho hoi
    obtain⟨o',r1,r2,r3⟩:=vy l h n hn d (i+1) _ (p+1) ac ac q1 q2 ac ac;rw[show((v.toNat:Nat):Int)=v by omega]at r1;have w4:v<(i:Int):=ac;have w5:v<((o++[rd o v]).length:Int):=by simp[w3];omega
    refine⟨o',Ev.s ?_,r2,r3⟩;simp only[fG.l0,show(i:Int)<(n:Int) by omega,if_true,cM w1];refine Ev.bind hv ?_;simp only[e,if_false,v0,w3,w4,w2,if_true,Option.bind_some,w5];rw[show p+((d+1:Nat):Int)=p+1+d by omega];rw[w3]at w2;simp only[w2,if_true,w5];exact r1
theorem vm(l:List Int)(h:gS l)(n:Nat)(hn:n<=100)(p:Int)(hp:0<=p)(hp':p<=500):∃(o:List Int),Ev (fun k=>fG.f k l p n) (o,p+n)/\inR n o/\bL n o:=by
 unfold fG.f;have:=vy l h n hn n 0 [] p ac ac ⟨rfl,fun i hi=>by omega⟩ (fun i j hi _ _=>by omega) hp ac;exact this
def pB(n:Nat)(q g:List Int)(i:Nat):Prop:=inR n g/\∀j:Nat,2*j+1<i->rd g (rd q ((2*j:Nat):Int))=rd q ((2*j+1:Nat):Int)/\rd g (rd q ((2*j+1:Nat):Int))=rd q ((2*j:Nat):Int)
theorem pU{a b:Int}(ha:0<=a)(hb:0<=b)(h:a.toNat=b.toNat):a=b:=by omega
theorem Iq(n:Nat)(q g:List Int)(hq:inR n q)(r:bL n q)(i:Nat)(hi:2*i+1<n)(h:pB n q g (2*i)):
 pB n q ((g.set (rd q ((2*i:Nat):Int)).toNat (rd q ((2*i+1:Nat):Int))).set (rd q ((2*i+1:Nat):Int)).toNat (rd q ((2*i:Nat):Int))) (2*i+2):=by
 have ra:=hq.2 (2*i) ac;have rb:=hq.2 (2*i+1) ac
 have ne:(rd q ((2*i:Nat):Int)).toNat≠(rd q ((2*i+1:Nat):Int)).toNat:=by
  intro e;have:=r (2*i) (2*i+1) ac ac (pU ra.1 rb.1 e);omega
 have c:∀x:Nat,x<n->rd ((g.set (rd q ((2*i:Nat):Int)).toNat (rd q ((2*i+1:Nat):Int))).set (rd q ((2*i+1:Nat):Int)).toNat (rd q ((2*i:Nat):Int))) (x:Int)=if(rd q ((2*i+1:Nat):Int)).toNat=x then rd q ((2*i:Nat):Int)else if(rd q ((2*i:Nat):Int)).toNat=x then rd q ((2*i+1:Nat):Int)else rd g x:=by
  intro x hx;by_cases e1:(rd q ((2*i+1:Nat):Int)).toNat=x
  ·rw[if_pos e1,<-e1,iE _ _ _ (by rw[List.length_set,h.1.1];omega)]
  · rw[gV _ _ _ _ e1,if_neg e1]
    by_cases e2:(rd q ((2*i:Nat):Int)).toNat=x
    ·rw[if_pos e2,<-e2,iE _ _ _ (by rw[h.1.1];omega)]
    ·rw[gV _ _ _ _ e2,if_neg e2]
 refine⟨⟨by simp[h.1.1],fun x hx=>?_⟩,fun j hj=>?_⟩
 · rw[c x hx]
   have:=h.1.2 x hx;split
   ·exact ra
   · split
     ·exact rb
     ·exact this
 · have sa:=hq.2 (2*j) ac
   have sb:=hq.2 (2*j+1) ac;have ea:(((rd q ((2*j:Nat):Int)).toNat:Nat):Int)=rd q ((2*j:Nat):Int):=ac;have eb:(((rd q ((2*j+1:Nat):Int)).toNat:Nat):Int)=rd q ((2*j+1:Nat):Int):=ac;rw[<-ea,<-eb,c _ ac,c _ ac,ea,eb];by_cases z:j=i
   · subst z
     rw[if_neg (fun e=>ne e.symm),if_pos rfl,if_pos rfl];exact⟨rfl,rfl⟩
   · have old:=h.2 j ac
     have n1:(rd q ((2*i+1:Nat):Int)).toNat≠(rd q ((2*j:Nat):Int)).toNat:=fun e=>by
      have:=r (2*i+1) (2*j) ac ac (pU rb.1 sa.1 e);omega
     have n2:(rd q ((2*i:Nat):Int)).toNat≠(rd q ((2*j:Nat):Int)).toNat:=fun e=>by
      have:=r (2*i) (2*j) ac ac (pU ra.1 sa.1 e);omega
     have n3:(rd q ((2*i+1:Nat):Int)).toNat≠(rd q ((2*j+1:Nat):Int)).toNat:=fun e=>by
      have:=r (2*i+1) (2*j+1) ac ac (pU rb.1 sb.1 e);omega
     have n4:(rd q ((2*i:Nat):Int)).toNat≠(rd q ((2*j+1:Nat):Int)).toNat:=fun e=>by
      have:=r (2*i) (2*j+1) ac ac (pU ra.1 sb.1 e);omega
     rw[if_neg n1,if_neg n2,if_neg n3,if_neg n4];exact old
theorem EY(n m:Nat)(hm:n=2*m)(q g:List Int)(hq:inR n q)(r:bL n q)(h:pB n q g n):∀d:Nat,d<n->eN g d:=by
 intro d hd;obtain⟨j,hj,e⟩:=EC q n hq r d hd
 have s:∃i,(j=2*i\/j=2*i+1)/\2*i+1<n:=by
  refine⟨j/2,ac,ac⟩
 obtain⟨i,F,hi⟩:=s;have o:=h.2 i hi
 have ne:rd q ((2*i:Nat):Int)≠rd q ((2*i+1:Nat):Int):=by
  intro e;have:=r (2*i) (2*i+1) ac ac e;omega
 rcases F with rfl|rfl
 · rw[e]at o ne
   unfold eN;rw[o.1];exact⟨fun z=>ne z.symm,o.2⟩
 · rw[e]at o ne
   unfold eN;rw[o.2];exact⟨ne,o.1⟩
def yW(F:Nat->Option (List Int×List Int×Int))(p:Int):Prop:=∃(t f:List Int) (p':Int),Ev F (t,f,p')/\t.length<=12/\f.length<=12/\0<=p'/\p'<=p+1
theorem xO(l:List Int)(h:gS l)(n:Nat)(h1:1<=n)(hn:n<=12)(i:Int)(p:Int)(hp:0<=p)(hp':p<=500)(t f:List Int)(ht:t.length=n)(hf:f.length=n):yW (fun k=>bz.j2 k n i false l p t f) p:=by
 obtain⟨v,hv,v0,v1⟩:=iI l h p hp ac 50 ac ac;have g1:(0:Int)<(f.length:Int):=ac;have g2:(1:Int)<=(t.length:Int):=ac;have g3:(0:Int)<(t.length:Int):=ac;by_cases c0:v=0
 · refine⟨t,f.set 0 0,p+1,Ev.s ?_,ac,by simp;omega,ac,ac⟩
   simp only[bz.j2,Bool.false_eq_true,if_false];refine Ev.bind hv ?_;simp only[c0,g1,if_true];exact Ev.const rfl
 · by_cases c1:v=1
   · refine⟨t.drop 1,f,p+1,Ev.s ?_,by simp;omega,ac,ac,ac⟩
     simp only[bz.j2,Bool.false_eq_true,if_false];refine Ev.bind hv ?_;simp only[c0,c1,g2,show ¬(1:Int)=0 by decide,if_true,if_false];exact Ev.const rfl
   · by_cases c2:v=2
     · refine⟨t.set 0 n,f,p+1,Ev.s ?_,by simp;omega,ac,ac,ac⟩
       simp only[bz.j2,Bool.false_eq_true,if_false];refine Ev.bind hv ?_;simp only[c2,g3,show ¬(2:Int)=0 by decide,show ¬(2:Int)=1 by decide,if_true,if_false];exact Ev.const rfl
     · refine⟨t,f,p+1,Ev.s ?_,ac,ac,ac,ac⟩
       simp only[bz.j2,Bool.false_eq_true,if_false];refine Ev.bind hv ?_;simp only[c0,c1,c2,if_false];exact Ev.const rfl
theorem Br(n:Nat)(hn:n<=12)(o:List Int)(ho:o.length=n)(i:Int)(l:List Int)(p:Int)(t f:List Int)(ht:t.length=n)(z:Nat)(hz:z<n)(I:rd o z≠0)(U:∀y:Nat,y<z->rd o y=0)(r:List Int×List Int×Int)
 (h:Ev (fun k=>bz.l1 k n (wrap64 (i+1)) l p ((t.set 0 (rd t (z:Int))).set z (rd t 0)) f) r):∀(d y:Nat),z-y=d->y<=z->Ev (fun k=>bz.l2 k n i o y l p t f) r
 |0,y,hd,hy=>by
  have:y=z:=ac;subst this;refine Ev.s ?_;simp only[bz.l2,ho,ht,show(0:Int)<=(y:Int) by omega,show(y:Int)<(n:Int) by omega,I,show(0:Int)<(n:Int) by omega,if_true,if_false,Int.toNat_natCast];exact h
 |d+1,y,hd,hy=>by
  refine Ev.s ?_;simp only[bz.l2,ho,show(0:Int)<=(y:Int) by omega,show(y:Int)<(n:Int) by omega,U y ac,if_true,cM (show y<4611686018427387904 by omega)];exact Br n hn o ho i l p t f ht z hz I U r h d (y+1) ac ac
theorem CC(l:List Int)(h:gS l)(n:Nat)(h1:1<=n)(hn:n<=12)(f:List Int)(hf:inR n f)(E:∀d:Nat,d<n->eN f d)(p:Int)(hp:0<=p)(hp':p<=500):∀(d i:Nat) (t:List Int),n-i=d->i<=n->inR n t->bL n t->yW (fun k=>bz.l1 k n i l p t f) p
 |0,i,t,hd,hi,ht,hti=>by
  have:i=n:=ac;subst this;obtain⟨a,b,c,e1,e2⟩:=xO l h i h1 hn i p hp hp' t f ht.1 hf.1;refine⟨a,b,c,Ev.s ?_,e2⟩;simp only[bz.l1,show ¬(i:Int)<(i:Int) by omega,if_false];exact e1
 |d+1,i,t,hd,hi,ht,hti=>by
  obtain⟨b,b1,_,b3⟩:=mB t f (by rw[ht.1];omega) (by rw[hf.1];omega);cases b with
  |true=>
   obtain⟨a,b',c,e1,e2⟩:=xO l h n h1 hn i p hp hp' t f ht.1 hf.1;refine⟨a,b',c,Ev.s ?_,e2⟩;simp only[bz.l1,show(i:Int)<(n:Int) by omega,if_true];refine Ev.bind b1 ?_;exact e1
  |false=>
   obtain⟨o,o1,o2,_⟩:=yJ t f n hn h1 ht hf
   have nz:∃z,z<n/\rd o (z:Int)≠0:=by
    by_cases q:∃z,z<n/\rd o ((z:Nat):Int)≠0
    ·exact q
    · exfalso
      have j:∀q:Nat,q<n->rd o q=0:=fun z hz=>by
       by_cases e:rd o (z:Int)=0
       ·exact e
       ·exact absurd ⟨z,hz,e⟩ q
      have hc:=(Bu t f n h1 ht hf o o1).1 j;have hm:isMap t f:=Fo ⟨hn,h1,ht,hti,hf,E,hc⟩;have:=b3.2 hm;cases this
   have least:∃z,z<n/\rd o (z:Int)≠0/\∀y:Nat,y<z->rd o y=0:=by
    obtain⟨z,hz,I⟩:=nz
    induction z using Nat.strongRecOn with
    |ind z ih=>
     by_cases q:∃y,y<z/\rd o ((y:Nat):Int)≠0
     · obtain⟨y,y1,y2⟩:=q
       exact ih y y1 ac y2
     ·exact⟨z,hz,I,fun y hy=>by
             by_cases e:rd o (y:Int)=0
             ·exact e
             ·exact absurd ⟨y,hy,e⟩ q⟩
   obtain⟨z,hz,I,U⟩:=least;obtain⟨q1,q2⟩:=set_perm t n 0 z ht hti ac hz;obtain⟨a,b',c,e1,e2⟩:=CC l h n h1 hn f hf E p hp hp' d (i+1) _ ac ac q1 q2;refine⟨a,b',c,Ev.s ?_,e2⟩;simp only[bz.l1,show(i:Int)<(n:Int) by omega,if_true];refine Ev.bind b1 ?_;refine Ev.s ?_;simp only[bz.j2,Bool.not_false,if_true];refine Ev.bind o2 ?_;refine Br n hn o o1.1.1 i l p t f ht.1 z hz I U _ ?_ z 0 ac ac;rw[cM ac];exact e1
theorem xT(l:List Int)(h:gS l)(n m:Nat)(hm:n=2*m)(h1:1<=m)(hn:n<=12)(q:List Int)(hq:inR n q)(r:bL n q)(p:Int)(hp:0<=p)(hp':p<=400):∀(d i:Nat) (g:List Int),m-i=d->i<=m->pB n q g (2*i)->∃(t f:List Int) (p':Int),Ev (fun k=>bz.l0 k n q g ((2*i:Nat):Int) l p) (t,f,p')/\t.length<=12/\f.length<=12/\0<=p'/\p'<=p+13
 |0,i,g,hd,hi,hg=>by
  have:i=m:=ac;subst this;rw[<-hm]at hg;obtain⟨t,t1,t2,t3⟩:=vm l h n ac p hp ac;obtain⟨a,b,c,e1,e2,e3,e4,e5⟩:=CC l h n ac hn g hg.1 (EY n i hm q g hq r hg) (p+n) ac ac n 0 t ac ac t2 t3;refine⟨a,b,c,Ev.s ?_,e2,e3,e4,ac⟩;have w:i<1000:=ac;simp only[bz.l0,cM (show 2*i<4611686018427387904 by omega),show ¬((2*i+1:Nat):Int)<(n:Int) by omega,if_false];exact Ev.bind t1 e1
 |d+1,i,g,hd,hi,hg=>by
  have ra:=hq.2 (2*i) ac;have rb:=hq.2 (2*i+1) ac;obtain⟨a,b,c,e1,e2⟩:=xT l h n m hm h1 hn q hq r p hp hp' d (i+1) _ ac ac (Iq n q g hq r i ac hg);refine⟨a,b,c,Ev.s ?_,e2⟩;have w2:wrap64 (((2*i:Nat):Int)+2)=((2*(i+1):Nat):Int):=by rw[w64 ac ac];omega
  simp only[bz.l0,cM (show 2*i<4611686018427387904 by omega),show((2*i+1:Nat):Int)<(n:Int) by omega,show(0:Int)<=((2*i:Nat):Int) by omega,show(0:Int)<=((2*i+1:Nat):Int) by omega,hq.1,show((2*i:Nat):Int)<(n:Int) by omega,hg.1.1,ra.1,ra.2,rb.1,rb.2,if_true,w2];exact e1
theorem CI(l:List Int)(h:gS l)(p:Int)(hp:0<=p)(hp':p<=200)(e:Nat)(h1:1<=e)(h6:e<=6):∃(t f:List Int) (p':Int),Ev (fun k=>bz.f k l p e) (t,f,p')/\t.length<=12/\f.length<=12/\0<=p'/\p'<=p+100:=by
 obtain⟨v,hv,v0,v1⟩:=iI l h p hp ac (e:Int) ac ac;obtain⟨V,rfl⟩:∃V:Nat,v=(V:Int):=⟨v.toNat,ac⟩;obtain⟨q,q1,q2,q3⟩:=vm l h (2*(1+V)) ac (p+1) ac ac
 have s:pB (2*(1+V)) q (List.replicate (2*(1+V)) 0) (2*0):=by
  refine⟨⟨ay,fun i hi=>?_⟩,fun j hj=>by omega⟩;rw[dY _ _ (by simpa using hi)];simp;omega
 obtain⟨a,b,c,e1,e2,e3,e4,e5⟩:=xT l h (2*(1+V)) (1+V) rfl ac ac q q2 q3 (p+1+((2*(1+V):Nat):Int)) ac ac (1+V) 0 _ ac ac s;refine⟨a,b,c,?_,e2,e3,e4,ac⟩;unfold bz.f;refine Ev.bind hv ?_;have w1:wrap64 (1+(V:Int))=((1+V:Nat):Int):=by rw[w64 ac ac];omega
 have w2:wrap64 (2*((1+V:Nat):Int))=((2*(1+V):Nat):Int):=by rw[w64 ac ac];omega
 simp only[w1,w2];refine Ev.bind q1 ?_;simp only[show(0:Int)<=((2*(1+V):Nat):Int) by omega,Int.toNat_natCast,show 2*(1+V)<=35184372088832 by omega,if_true];exact e1
theorem z8(a b:List Int)(ha:a.length<=1048576)(hb:b.length<=1048576):∃r:List Int×Bool,Ev (fun k=>lr.f k a b) r/\r.1.length<=12:=by
 obtain⟨x,x1,_,x3⟩:=sJ a ha;obtain⟨y,y1,_,y3⟩:=sJ b hb;by_cases h:x=true/\y=true/\a.length=b.length
 · obtain⟨rfl,rfl,hl⟩:=h
   have pa:=x3.1 rfl;have pb:=y3.1 rfl;have ra:=iY a pa;have rb:=iY b pb;rw[<-hl]at rb;have hn:=pa.2.1;refine⟨(aX (aX (dD b a.length a.length) a a.length) b a.length,true),?_,by rw[ie];exact hn⟩;unfold lr.f;refine Ev.bind (a:=true) ?_ ?_
   · unfold jb.f
     refine Ev.bind x1 ?_;simp only[if_true];refine Ev.bind y1 ?_;simp only[if_true,hl,beq_self_eq_true];exact Ev.const rfl
   · simp only[if_true]
     refine Ev.bind (xi a.length ac b rb) ?_;refine Ev.bind (pE a.length ac _ a (oy b a.length) ra) ?_;refine Ev.bind (pE a.length ac _ b (jf a.length _ a (oy b a.length) ra) rb) ?_;exact Ev.const rfl
 · refine⟨([],false),?_,ay⟩
   unfold lr.f;refine Ev.bind (a:=false) ?_ (by simp only[Bool.false_eq_true,if_false];exact Ev.const rfl);unfold jb.f;refine Ev.bind x1 ?_;cases x with
   |false=>simp only[Bool.false_eq_true,if_false];exact Ev.const rfl
   |true=>
    simp only[if_true];refine Ev.bind y1 ?_;cases y with
    |false=>simp only[Bool.false_eq_true,if_false];exact Ev.const rfl
    |true=>
     simp only[if_true]
     have:((a.length:Int)==(b.length:Int))=false:=by
      rw[beq_eq_false_iff_ne];intro e;exact h ⟨rfl,rfl,ac⟩
     rw[this];exact Ev.const rfl
theorem GQ(t f b:List Int)(ht:t.length<=1048576)(hf:f.length<=1048576)(hb:b.length<=1048576):∃r:List Int×List Int,Ev (fun k=>mS.f k t f b) r/\r.1.length<=12/\r.2.length<=12:=by
 obtain⟨x,x1,x2⟩:=z8 t b ht hb;obtain⟨y,y1,y2⟩:=z8 f b hf hb;refine⟨(x.1,y.1),?_,x2,y2⟩;unfold mS.f;exact Ev.bind x1 (Ev.bind y1 (Ev.const rfl))
def o6(s:ByteArray)(l:List Int):Bool:=
 match bw.f 3000 s l with
 |some (t,f,_,_)=>decide (t.length<=12/\f.length<=12)
 |none=>false
theorem ET:jd o6 1=true:=by decide+kernel
theorem Ec:jd o6 2=true:=by decide+kernel
theorem Gu:∀s∈jQ 3,∀a∈([-1,0,1]:List Int),(kI 2).all (fun l=>o6 s (a::l))=true:=by
 intro s hs a ha;simp only[jQ,List.mem_cons,List.not_mem_nil,or_false]at hs ha;rcases hs with rfl|rfl|rfl|rfl|rfl<;>rcases ha with rfl|rfl|rfl<;>decide+kernel
theorem Ir:jd o6 3=true:=by
 unfold jd;rw[List.all_eq_true];intro s hs;rw[List.all_eq_true];intro l hl;rw[kI,List.mem_flatMap]at hl;obtain⟨a,ha,hl⟩:=hl;obtain⟨l1,m,rfl⟩:=List.mem_map.1 hl;exact List.all_eq_true.1 (Gu s hs a ha) l1 m
theorem Ed(s:ByteArray)(l:List Int)(hs:s.size<=10)(hl:l.length<=10):∃r:List Int×List Int×Int×Bool,Ev (fun k=>bw.f k s l) r/\r.1.length<=12/\r.2.1.length<=12:=by
 obtain⟨b,b1,b2,b3⟩:=F8 s ac l ac;cases b with
 |false=>
  refine⟨([],[],0,false),?_,ay,ay⟩;unfold bw.f;refine Ev.bind b1 ?_;simp only[Bool.false_eq_true,if_false];exact Ev.const rfl
 |true=>
  have hck:=Ic o6 ET Ec Ir s l (b3 rfl);unfold o6 at hck;split at hck
  · rename_i t f q b e
    have hck:=of_decide_eq_true hck;exact⟨(t,f,q,b),Ev.of (fun k=>bw.mono _ _ k) e,hck.1,hck.2⟩
  ·cases hck
def EB(g:Nat->Option (List Int×List Int×Int))(p:Int):Prop:=∃(t f:List Int) (p':Int),Ev g (t,f,p')/\t.length<=12/\f.length<=12/\0<=p'/\p'<=p+200
theorem xX(l:List Int)(h:gS l)(p:Int)(hp:0<=p)(hp':p<=300):EB (fun k=>dS.j0 k l p) p:=by
 obtain⟨s,st,p1,e1,z1,z2,z3,z4⟩:=HD l h p hp ac 3 ac ac;obtain⟨⟨t,f,q,b⟩,e2,y1,y2⟩:=Ed s st z1 z2;cases b with
 |false=>
  refine⟨[1,0],[1,0],p1,Ev.s ?_,ay,ay,z3,ac⟩;simp only[dS.j0];refine Ev.bind e1 ?_;refine Ev.bind e2 ?_;simp only[Bool.false_eq_true,if_false];exact Ev.const rfl
 |true=>
  have y1:t.length<=12:=y1;have y2:f.length<=12:=y2;obtain⟨o,e3,o1,_⟩:=vm l h t.length ac p1 z3 ac;obtain⟨r,e4,r1,r2⟩:=GQ t f o ac ac (by rw[o1.1];omega);refine⟨r.1,r.2,p1+(t.length:Int),Ev.s ?_,r1,r2,ac,ac⟩;simp only[dS.j0];refine Ev.bind e1 ?_;refine Ev.bind e2 ?_;simp only[if_true];refine Ev.bind e3 ?_;exact Ev.bind e4 (Ev.const rfl)
theorem Ex(l:List Int)(h:gS l):∃(t f:List Int) (p':Int),Ev (fun k=>dS.f k l 0) (t,f,p')/\t.length<=12/\f.length<=12/\0<=p'/\p'<=500:=by
 obtain⟨v,e,_,_⟩:=iI l h 0 ac ac 4 ac ac;by_cases c0:v=0
 · obtain⟨t,f,p',e1,z1,z2,z3,z4⟩:=CI l h (0+1) ac ac 4 ac ac
   refine⟨t,f,p',?_,z1,z2,z3,ac⟩;unfold dS.f;refine Ev.bind e ?_;simp only[c0,if_true];exact Ev.bind e1 (Ev.const rfl)
 · by_cases c1:v=1
   · obtain⟨t,f,p',e1,z1,z2,z3,z4⟩:=CI l h (0+1) ac ac 3 ac ac
     obtain⟨T,F,b,e2,_,y1,y2⟩:=Hg t f ac ac;cases b with
     |true=>
      refine⟨T,F,p',?_,y1,y2,z3,ac⟩;unfold dS.f;refine Ev.bind e ?_;simp only[c1,show ¬(1:Int)=0 by decide,if_true,if_false];refine Ev.bind e1 ?_;refine Ev.bind e2 ?_;simp only[if_true];exact Ev.const rfl
     |false=>
      obtain⟨t',f',c,e3,x1,x2,x3,x4⟩:=xX l h p' z3 ac;refine⟨t',f',c,?_,x1,x2,x3,ac⟩;unfold dS.f;refine Ev.bind e ?_;simp only[c1,show ¬(1:Int)=0 by decide,if_true,if_false];refine Ev.bind e1 ?_;refine Ev.bind e2 ?_;simp only[Bool.false_eq_true,if_false];exact e3
   · obtain⟨t',f',c,e3,x1,x2,x3,x4⟩:=xX l h (0+1) ac ac
     refine⟨t',f',c,?_,x1,x2,x3,ac⟩;unfold dS.f;refine Ev.bind e ?_;simp only[c0,c1,if_false];exact e3
theorem zC(l:List Int)(h:gS l)(p:Int)(hp:0<=p)(hp':p<=1000)(n:Nat)(hn:n<=12):∃(v p':Int),Ev (fun k=>fP.f k l p n) (v,p')/\0<=p'/\p'<=p+2:=by
 have b:∀q:Int,0<=q->q<=1001->∃(v p':Int),Ev (fun k=>fP.j0 k n true l q) (v,p')/\0<=p'/\p'<=q+1:=fun q h0 h1=>by
  obtain⟨v,e,v0,v1⟩:=iI l h q h0 ac 2 ac ac;refine⟨rd [(-1),(n:Int)] v,q+1,Ev.s ?_,ac,ac⟩;simp only[fP.j0,if_true,Option.bind_some];refine Ev.bind e ?_;simp only[v0,show v<(([(-1),(n:Int)]:List Int).length:Int)from v1,if_true];exact Ev.const rfl
 by_cases c:(n:Int)=0
 · obtain⟨v,p',e,z1,z2⟩:=b p hp ac
   refine⟨v,p',?_,z1,ac⟩;unfold fP.f;rw[c]at e ⊢;simp only[if_true];exact e
 · obtain⟨w,ew,w0,w1⟩:=iI l h p hp ac 20 ac ac
   by_cases z:w=0
   · obtain⟨v,p',e,z1,z2⟩:=b (p+1) ac ac
     refine⟨v,p',?_,z1,ac⟩;unfold fP.f;simp only[c,if_false];refine Ev.bind ew ?_;simp only[z,beq_self_eq_true];exact e
   · obtain⟨v,e,v0,v1⟩:=iI l h (p+1) ac ac (n:Int) ac ac
     refine⟨v,p+1+1,?_,ac,ac⟩;unfold fP.f;simp only[c,if_false];refine Ev.bind ew ?_;simp only[show(w==0)=false from beq_eq_false_iff_ne.2 z];refine Ev.s ?_;simp only[fP.j0,Bool.false_eq_true,if_false];exact Ev.bind e (Ev.const rfl)
end Go.Proofs.Ytlpbalebodlipaa.PL
set_option linter.unusedVariables false
set_option linter.unusedSimpArgs false
namespace Go.Proofs.Ytlpbalebodlipaa.Pure
open Go.RowKit Go.Proofs.Ytlpbalebodlipaa.PL Go.Proofs.YtlpbalebodlipaaW.PrintWords Go.Proofs.YtlpbalebodlipaaW.PrintLast Go.Proofs.YtlpbalebodlipaaW.PrintMore
theorem AV(s:ByteArray)(l:List Int)(hl:l.length<=1048576):Ev (fun k=>kK.f k s l s l) true:=by
 unfold kK.f;simp only[if_true];exact Ev.bind (vL l hl) (Ev.const rfl)
theorem form_told(t f:List Int)(n:Nat)(H:dE t f n)(hm:isMap t f)(r:Nat)(hr:r<n):Ev (fun k=>gZ.f k t f (r:Int)) (iK t (cn t f n r) n,iK f (cn t f n r) n,true):=by
 have lt:=H.2.2.1.1;unfold gZ.f;refine Ev.bind (CG t f n H hm) ?_;simp only[if_true,lt,show ¬(r:Int)<0 by omega,if_false,decide_eq_false (show ¬(r:Int)>=(n:Int) by omega)];refine Ev.s ?_;simp only[gZ.j0,Bool.false_eq_true,if_false];refine Ev.bind (Hd t f n H r hr) ?_;exact Ev.bind (Eg t f _ n H.1 H.2.2.1 H.2.2.2.2.1 (rY t f n H r hr).1) (Ev.const rfl)
theorem BW(t f:List Int)(n:Nat)(H:dE t f n)(hm:isMap t f)(a:Nat)(ha:a<n)(g:List Int)(hg:dG t f n a g)(e:Ev (fun k=>jh.f k t f (a:Int)) g)(d:Nat)(hd:d<n):Ev (fun k=>ki.f k t f (a:Int) (d:Int)) (rd g (d:Int)):=by
 have lt:=H.2.2.1.1;unfold ki.f;refine Ev.bind (CG t f n H hm) ?_;simp only[if_true,lt,show ¬(a:Int)<0 by omega,show ¬(a:Int)>=(n:Int) by omega,show ¬(d:Int)<0 by omega,show ¬(d:Int)>=(n:Int) by omega,if_false];refine Ev.bind e ?_;simp only[hg.len,show(0:Int)<=(d:Int) by omega,show(d:Int)<(n:Int) by omega,if_true];exact Ev.const rfl
theorem FnQuadTree:cW.Pure:=by
 intro c _ _ hc;by_cases hs:(c.length:Int)>1048576
 ·exact⟨0,by unfold cW.f;rw[if_pos hs]⟩
 refine Ev.rounds (r:=true) ?_;unfold cW.f;simp only[hs,if_false];obtain⟨c',ho,q⟩:=FA c hc;obtain⟨t,f,p1,e1,l1,l2,U,aj⟩:=Ex c' q;obtain⟨m,p2,e2,R,ce⟩:=zC c' q p1 U ac t.length l1;obtain⟨point,p3,e3,am,ak⟩:=zC c' q p2 R ac t.length l1
 have W:Ev (fun k=>gT.f k c) (t,f,m,point):=by
  unfold gT.f;simp only[ho,Option.bind_some];refine Ev.bind e1 ?_;refine Ev.bind e2 ?_;exact Ev.bind e3 (Ev.const rfl)
 refine Ev.bind W ?_;obtain⟨s,l,b,q1,q2,G,L,q3⟩:=E8 t f ac ac m point;refine Ev.bind q2 ?_;refine Ev.bind q1 ?_;simp only[bne_self_eq_false,Bool.false_eq_true,if_false];refine Ev.bind (AV s l L) ?_;simp only[if_true];refine Ev.s ?_;cases b with
 |false=>
  simp only[cW.j0,Bool.not_false,if_true,beq_self_eq_true];exact Ev.bind (AV s l L) (Ev.const rfl)
 |true=>
  obtain⟨r,p,er,ep,hr,hp,hm,H,h4,hE,g,hg,hd,es,el⟩:=q3 rfl;subst er ep;generalize hn:t.length=n at*;obtain⟨ae,h1,ht,hti,hf,E,J⟩:=id H;have Kq:=vM t f n H h4 hE p hp g hg;have fc:=wB t f n H h4;have ha:Dn n (nf f) (nf g) r:=⟨hr,hd⟩
  have h2:∀x,x<n->nf t (nf f (nf t (nf f x)))≠x:=fun x hx=>by
   have o:=iz t f n ht hf;have v:=jM t f n ht hti hf (oB f n E);have P:=h4;rw[oC t f n ht hf]at P;obtain⟨_,T⟩:=ql _ n o v P;have:=(T x hx).2.2.1;have b1:nf t (nf f x)<n:=(fA ht (fA hf hx).2).2;rw[um ht hf x hx,um ht hf _ b1]at this;omega
  have X:∃F,(F=1\/F=2\/F=3)/\sP Kq ha F:=by
   have ev:=pM Kq;rcases(show n/2=2\/n/2=4\/n/2=6 by omega)with e|e|e
   ·exact⟨1,ay,uS Kq ha 1 ay hti (fun z=>absurd rfl z) h2 e⟩
   ·exact⟨2,ay,uS Kq ha 2 ay hti (fun _=>by omega) h2 e⟩
   ·exact⟨3,ay,uS Kq ha 3 ay hti (fun _=>by omega) h2 e⟩
  obtain⟨F,hF,T1,T2,T3,T4,T5,T6⟩:=X;rw[<-es]at T3 T5 T6;rw[<-el]at T2 T4 T6;obtain⟨xt,xf,B,x1,x2,x3,x4⟩:=Ei s l ⟨ac,by rw[T2];exact T3,T4⟩;rw[T2,<-T1]at x2;have ev:=pM Kq;obtain⟨I,j,j1,j2,j3⟩:=Gi Kq ha (mP s l) _ T6 (oM s) xt xf B x2 T5;have lx:xt.length=n:=by have:=x2.1;omega
  have ad:xf.length=n:=by have:=x2.2.1;omega
  obtain⟨b,b1,b2,b3⟩:=mB xt xf ac ac;have hb:b=true:=Ev.uniq b2 x3;have N:=b3.1 hb;have Hx:dE xt xf n:=by have:=yc N;rw[lx]at this;exact this
  have h0:lO t f g r 0=r:=kk t f g r 0;obtain⟨z1,z2⟩:=DV n _ xt xf t f Hx H I 0 ac;rw[h0]at z1 z2;have f1:=form_told xt xf n Hx N 0 ac;have f2:=form_told t f n H hm r hr;rw[z1,z2]at f2;have rl:=fun y=>(F3 y (cn xt xf n 0) n · (rY xt xf n Hx 0 ac).1)
  have af:=(rl xt Hx.2.2.1).1;have ai:=(rl xf Hx.2.2.2.2.1).1;obtain⟨g0,S,ah,Z⟩:=uO xt xf n Hx 0 ac;obtain⟨g1,D,ag,Y⟩:=uO t f n H r hr;have V:2*j+1<n:=ac;have m1:=BW xt xf n Hx N 0 ac g0 S Z (2*j+1) V;have m2:=BW t f n H hm r hr g1 D Y p hp
  have aa:rd g1 (p:Int)=rd g0 ((2*j+1:Nat):Int):=by
   rw[<-GK I Hx H 0 ac g0 g1 S (by rw[h0];exact D) (2*j+1) V,ky];have dj:=gu Kq ha j;have fj:=Kq.Q.fr _ dj.1
   have one:nf g (wI t f g r j)=1:=by
    have al:=dj.2
    have up:nf g (wI t f g r j)<=1:=by
     obtain⟨w,w1,w2,w3⟩:=Kq.Q.low _ r ha rfl;obtain⟨i,i1,i2⟩:=qd Kq ha w1;have:=j3 i i1;rw[i2]at this;omega
    omega
   have zf:rd g (nf f (wI t f g r j):Int)=0:=by
    rw[(Kq.gr _ fj).1];have:=dj.2;omega
   exact(lF ht hti g1 D.turn (hg.zero _ fj zf)).symm
  rw[<-aa,<-j2]at m1;simp only[cW.j0,Bool.not_true,Bool.false_eq_true,if_false];refine Ev.bind x1 ?_;refine Ev.bind f1 ?_;refine Ev.bind f2 ?_;simp only[if_true];refine Ev.bind (GA _ _ ac ac) ?_;simp only[if_true];refine Ev.bind m1 ?_;refine Ev.bind m2 ?_;simp only[if_true];exact Ev.bind x4 (Ev.const rfl)
end Go.Proofs.Ytlpbalebodlipaa.Pure
namespace Go.Proofs.Ytlpbalebodlipaa.fnQuadTree
open Go.ChangeShapes Go.WideShapes Go.ChangeAt Go.RowKit
open Go.ChangeMaps (open_string shut_string)
set_option linter.unusedVariables false
theorem own:ownKnob Try.prog.godebug=none:=by kernel_rfl
theorem laidOut:laidOutB Try.prog=true:=by kernel_rfl
def FU(k:IntKind)(w:World)(a:Option Addr)(len G:Nat)(zs:List Int):Prop:=
 (a=none/\len=0/\G=0/\zs=[])\/
 ∃x,a=some x/\len<=G/\G<=maxLen/\zs.length=G/\(∀i,i<zs.length->w.cell? (x.add i)=some (.int k (zs.getD i 0)))/\∀n∈zs,(Lit.int k n).wf=true
set_option maxRecDepth 100000 in
theorem lifted(os:Os)(k:os.Started)(H:Type)(enc:TypeId×Value->H):
 ReturnsInHanded {} Try.checked os 12 .any (Rows.fnQuadTreeSpec.pre6 enc Try.prog Try.f12 Rows.fnQuadTreeRow.domain false) (Rows.fnQuadTreeSpec.post enc Try.prog Try.f12 false true false false):=by
 refine returnsInHanded_of_change_sized (C:=Try.checked) own k (by kernel_rfl) Try.func12
  (ChangeSpec.witness6 (enc:=enc) (C:=Try.checked) false ⟨#[],#[.slice none 0 0],[]⟩ 8 (by kernel_rfl) (by kernel_rfl) (by kernel_rfl) (by kernel_rfl)) ?_
 intro W base args ds gs before y hW R w _;have s:(DataW.weightsEach Try.prog (Try.f12.params.toList++Rows.fnQuadTreeSpec.plain.varTypes Try.prog) (ds++gs)).all (· <=reachBytes)=true:=w;have B:∀(j:Nat) t v,Try.f12.params[j]?=some t->args[j]?=some v->Value.okWide Try.prog W .any base t v:=y;have F:=hW;obtain⟨p,q,D,hV,rfl,I,L⟩:=hW;have hA:DataW.TrodAll enc Try.prog W 0 (fun _=>true) true Try.f12.params.toList args.toList ds p:=D;rw[Try.params12]at hA B s;obtain⟨v0,P,d0,N,p0,q0,fN,rfl,rfl,h0,r0⟩:=trodAll_cons hA;obtain⟨rfl,rfl,rfl⟩:=trodAll_nil r0;obtain rfl:args= #[v0]:=by cases args;simp_all
 obtain⟨rfl,rfl⟩:=trodVars_none hV;obtain⟨a0,b,o,rfl⟩:=okWide_slice Try.underlying22 (B 0 22 v0 rfl rfl);have k0:=h0;have J:∀x∈p0,x.block<W.heap.size:=by obtain⟨m,hm⟩:=k0;exact DataW.trod_lt m _ _ _ hm
 obtain⟨z0,w0⟩:∃zs,FU .u8 W a0 b o zs:=by
  obtain⟨fuel,hf⟩:=h0;rcases open_ints Try.underlying22 Try.underlying5 (by kernel_rfl) hf with⟨E,_⟩|⟨x,l,c,zs,E,_,hl,hm,hz,_,r,G⟩
  ·
   simp[Value.cells]at E;obtain⟨rfl,rfl,rfl⟩:=E;exact⟨[],.inl ⟨rfl,rfl,rfl,rfl⟩⟩
  ·
   simp[Value.cells]at E;obtain⟨rfl,rfl,rfl⟩:=E;exact⟨zs,.inr ⟨_,rfl,hl,hm,by simpa using hz,r,G⟩⟩
 have y0:b*1<=140737488351232:=Go.Proofs.YtlpbalebodlipaaW.PrintWords.FH s (j:=0) (t:=22) rfl rfl Try.underlying22 Try.underlying5 (by kernel_rfl) (by kernel_rfl) h0;clear D y w s;refine(PL.cW.walk Pure.FnQuadTree a0 b o z0 W w0 y0).mono fun e W' ⟨he,bel⟩=>?_
 subst he;exact⟨_,rfl,_,_,_,[],_,[],F,trodAll_mk1 (shut_bool Try.underlying4 _),(trodAll_cons_mk (Below.trod laidOut (by kernel_rfl) (of_decide_eq_true (by kernel_rfl)) k0 bel J) trodAll_mk0),rfl,bel.frame _,fun h=>by cases h⟩
theorem over:Rows.fnQuadTreeRow.holds Try.pinned (OpenSpec.ofChange Rows.fnQuadTreeSpec):=
 OpenClaim.holds_of_wide 12 Try.f12 rfl rfl rfl rfl rfl rfl rfl ⟨rfl,rfl,rfl,rfl,rfl⟩ rfl rfl rfl rfl rfl (by kernel_rfl) Try.func12 (by kernel_rfl)
  (of_decide_eq_true (by kernel_rfl)) (by unfold Func.isWrapper;first|(rw[if_pos (by decide+kernel)];kernel_rfl)|(rw[if_neg (by decide+kernel)];exact⟨rfl,rfl⟩))
  (fun os k H enc _=>lifted os k H enc)
theorem proved:Rows.FnQuadTreeSaid:=over
#print axioms proved
end Go.Proofs.Ytlpbalebodlipaa.fnQuadTree
namespace Go.Proofs.Ytlpbalebodlipaa
theorem fnQuadTree_holds:Rows.FnQuadTreeSaid:=fnQuadTree.proved
end Go.Proofs.Ytlpbalebodlipaa
