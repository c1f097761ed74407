/- A part of the proof of FnQuadTree. There are no conditions. -/
import Derived.Test.YtlpbalebodlipaaKFnQuadTreeOwnx11
set_option linter.unusedVariables false
set_option linter.unusedSimpArgs false
set_option maxHeartbeats 0
namespace Go.Proofs.Ytlpbalebodlipaa.PL
open Go.RowKit Go.Proofs.YtlpbalebodlipaaW.PrintWords Go.Proofs.YtlpbalebodlipaaW.PrintLast Go.Proofs.YtlpbalebodlipaaW.PrintMore
def eg(s:ByteArray):Nat->Int->Option (Int×Int)
 |0,g=>some (g,0)
 |d+1,g=>if bt s ((s.size:Int)-(d+1:Nat))=40 then(eg s d (g+1)).map (fun p=>(p.1,p.2+1))else if bt s ((s.size:Int)-(d+1:Nat))=41 then(if g-1<0 then none else eg s d (g-1))else none
theorem vG(s:ByteArray):∀(d:Nat) (g:Int) (p:Int×Int),0<=g->eg s d g=some p->0<=p.1/\0<=p.2/\p.2<=d/\p.1=g+2*p.2-d
 |0,g,p,hg,h=>by simp only[eg,Option.some.injEq]at h;subst h;simp;omega
 |d+1,g,p,hg,h=>by
  simp only[eg]at h;split at h
  · cases e:eg s d (g+1)with
    |none=>rw[e]at h;cases h
    |some q=>
     rw[e]at h;obtain rfl:=Option.some.inj h;have:=vG s d (g+1) q ac e;simp only;omega
  · split at h
    · split at h
      ·cases h
      · have:=vG s d (g-1) p ac h
        omega
    ·cases h
theorem yH(x3 x4:Int)(s:ByteArray)(l:List Int)(hl:l.length<=1048576):∀(d i:Nat),l.length-i=d->i<=l.length->
 ((∀j,i<=j->j<l.length-> -1<=rd l j/\rd l j<=1)->Ev (fun k=>bN.l1 k x3 x4 i s l) (decide (x3=0/\(1<=x4/\x4<=3)/\(l.length:Int)=x4)))/\
 (¬(∀j,i<=j->j<l.length-> -1<=rd l j/\rd l j<=1)->Ev (fun k=>bN.l1 k x3 x4 i s l) false)
 |0,i,hd,hi=>by
  refine⟨fun _=>Ev.s ?_,fun h=>absurd (fun j h1 h2=>by omega) h⟩;simp only[bN.l1,show ¬(i:Int)<(l.length:Int) by omega,if_false];refine Ev.const ?_;unfold eS.f;by_cases h1:x3=0
  · by_cases h2:x4>=1
    · by_cases h3:x4<=3
      ·by_cases h4:(l.length:Int)=x4<;>simp[h1,h2,h3,h4]<;>(try omega)
      ·simp[h1,h2,h3]
    ·simp[h1,h2]<;>(first|done|omega)
  ·simp[h1]
 |d+1,i,hd,hi=>by
  have ih:=yH x3 x4 s l hl d (i+1) ac ac;have hw:wrap64 ((i:Int)+1)=((i+1:Nat):Int):=by rw[w64 ac ac];omega
  by_cases hb: -1<=rd l i/\rd l i<=1
  · have hin:eS.f (rd l i) (-1) 1=some true:=by unfold eS.f;rw[if_pos hb.1,decide_eq_true hb.2]
    refine⟨fun h=>Ev.s ?_,fun h=>Ev.s ?_⟩
    · simp only[bN.l1,show(i:Int)<(l.length:Int) by omega,show(0:Int)<=i by omega,if_true,hin,Option.bind_some,hw]
      exact ih.1 fun j h1 h2=>h j ac h2
    · simp only[bN.l1,show(i:Int)<(l.length:Int) by omega,show(0:Int)<=i by omega,if_true,hin,Option.bind_some,hw]
      refine ih.2 fun h'=>h fun j h1 h2=>?_
      by_cases e:j=i
      ·rw[e];exact hb
      ·exact h' j ac h2
  · have hin:eS.f (rd l i) (-1) 1=some false:=by
     unfold eS.f;by_cases h1:rd l i>= -1
     ·rw[if_pos h1,decide_eq_false ac]
     ·rw[if_neg h1]
    refine⟨fun h=>absurd (h i (Nat.le_refl _) ac) hb,fun h=>Ev.s ?_⟩;simp only[bN.l1,show(i:Int)<(l.length:Int) by omega,show(0:Int)<=i by omega,if_true,hin,Option.bind_some];exact Ev.const rfl
theorem tL(s:ByteArray)(hs:s.size<=1048576)(l:List Int):∀(d:Nat) (i g c:Int),0<=i->(s.size:Int)-i=d->0<=g->g<=i->0<=c->c<=i->
 (∀p,eg s d g=some p->∀r,Ev (fun k=>bN.l1 k p.1 (c+p.2) 0 s l) r->Ev (fun k=>bN.l0 k g c i s l) r)/\(eg s d g=none->Ev (fun k=>bN.l0 k g c i s l) false)
 |0,i,g,c,hi,hd,hg,hgi,hc,hci=>by
  refine⟨fun p hp r h=>Ev.s ?_,fun h=>by simp[eg]at h⟩;simp only[bN.l0,show ¬i<(s.size:Int) by omega,if_false];simp only[eg,Option.some.injEq]at hp;subst hp;simpa using h
 |d+1,i,g,c,hi,hd,hg,hgi,hc,hci=>by
  have hj:(s.size:Int)-((d+1:Nat):Int)=i:=ac;have w1:wrap64 (g+1)=g+1:=w64 ac ac;have w2:wrap64 (g-1)=g-1:=w64 ac ac;have w3:wrap64 (c+1)=c+1:=w64 ac ac;have w4:wrap64 (i+1)=i+1:=w64 ac ac;simp only[eg,hj];by_cases b0:bt s i=40
  · simp only[b0,if_true]
    have ih:=tL s hs l d (i+1) (g+1) (c+1) ac ac ac ac ac ac;refine⟨fun p hp r h=>Ev.s ?_,fun h=>Ev.s ?_⟩
    · simp only[bN.l0,show i<(s.size:Int) by omega,hi,b0,if_true,w1,w3,w4,show ¬g+1<0 by omega,if_false]
      cases e:eg s d (g+1)with
      |none=>rw[e]at hp;cases hp
      |some q=>
       rw[e]at hp;obtain rfl:=Option.some.inj hp;refine ih.1 q e r ?_;have:c+1+q.2=c+(q.2+1):=ac;rw[this];exact h
    · simp only[bN.l0,show i<(s.size:Int) by omega,hi,b0,if_true,w1,w3,w4,show ¬g+1<0 by omega,if_false]
      exact ih.2 (by simpa using h)
  · by_cases b1:bt s i=41
    · simp only[b1,if_true,show ¬((41:Int)=40) by decide,if_false]
      by_cases hz:g-1<0
      · refine⟨fun p hp=>by simp[hz]at hp,fun _=>Ev.s ?_⟩
        simp only[bN.l0,show i<(s.size:Int) by omega,hi,b1,if_true,w2,hz,show ¬((41:Int)=40) by decide,if_false];exact Ev.const rfl
      · have ih:=tL s hs l d (i+1) (g-1) c ac ac ac ac ac ac
        simp only[hz,if_false];refine⟨fun p hp r h=>Ev.s ?_,fun h=>Ev.s ?_⟩
        · simp only[bN.l0,show i<(s.size:Int) by omega,hi,b1,if_true,w2,w4,hz,show ¬((41:Int)=40) by decide,if_false]
          exact ih.1 p hp r h
        · simp only[bN.l0,show i<(s.size:Int) by omega,hi,b1,if_true,w2,w4,hz,show ¬((41:Int)=40) by decide,if_false]
          exact ih.2 h
    · simp only[b0,b1,if_false]
      refine⟨fun p hp=>by simp at hp,fun _=>Ev.s ?_⟩;simp only[bN.l0,show i<(s.size:Int) by omega,hi,b0,b1,if_true,if_false];exact Ev.const rfl
theorem rI(s:ByteArray)(hs:s.size<=1048576):∀(d i:Nat) (g:Int),(s.size:Int)-i=d->0<=g->g<=i->
 (∀p,eg s d g=some p->Ev (fun k=>bB.l1 k s i g) (p.1==0))/\(eg s d g=none->Ev (fun k=>bB.l1 k s i g) false)
 |0,i,g,hd,hg,hgi=>by
  refine⟨fun p hp=>Ev.s ?_,fun h=>by simp[eg]at h⟩;simp only[bB.l1,show ¬i<s.size by omega,if_false];simp only[eg,Option.some.injEq]at hp;subst hp;exact Ev.const rfl
 |d+1,i,g,hd,hg,hgi=>by
  have hj:(s.size:Int)-((d+1:Nat):Int)=(i:Int):=ac;have w1:wrap64 (g+1)=g+1:=w64 ac ac;have w2:wrap64 (g-1)=g-1:=w64 ac ac;simp only[eg,hj];by_cases b0:bt s i=40
  · simp only[b0,if_true]
    have ih:=rI s hs d (i+1) (g+1) ac ac ac;refine⟨fun p hp=>Ev.s ?_,fun h=>Ev.s ?_⟩
    · simp only[bB.l1,show i<s.size by omega,b0,if_true,w1,show ¬g+1<0 by omega,if_false]
      cases e:eg s d (g+1)with
      |none=>rw[e]at hp;cases hp
      |some q=>
       rw[e]at hp;obtain rfl:=Option.some.inj hp;exact ih.1 q e
    · simp only[bB.l1,show i<s.size by omega,b0,if_true,w1,show ¬g+1<0 by omega,if_false]
      exact ih.2 (by simpa using h)
  · by_cases b1:bt s i=41
    · simp only[b1,if_true,show ¬((41:Int)=40) by decide,if_false]
      by_cases hz:g-1<0
      · refine⟨fun p hp=>by simp[hz]at hp,fun _=>Ev.s ?_⟩
        simp only[bB.l1,show i<s.size by omega,b1,if_true,w2,hz,show ¬((41:Int)=40) by decide,if_false];exact Ev.const rfl
      · have ih:=rI s hs d (i+1) (g-1) ac ac ac
        simp only[hz,if_false];refine⟨fun p hp=>Ev.s ?_,fun h=>Ev.s ?_⟩
        · simp only[bB.l1,show i<s.size by omega,b1,if_true,w2,hz,show ¬((41:Int)=40) by decide,if_false]
          exact ih.1 p hp
        · simp only[bB.l1,show i<s.size by omega,b1,if_true,w2,hz,show ¬((41:Int)=40) by decide,if_false]
          exact ih.2 h
    · simp only[b0,b1,if_false]
      refine⟨fun p hp=>by simp at hp,fun _=>Ev.s ?_⟩;simp only[bB.l1,show i<s.size by omega,b0,b1,if_true,if_false];exact Ev.const rfl
theorem qk(s:ByteArray)(l:List Int)(hl:l.length<=3):∀(d i:Nat),l.length-i=d->i<=l.length->
 ((∀j,i<=j->j<l.length-> -1<=rd l j/\rd l j<=1)->∀r,Ev (fun k=>bB.l1 k s 0 0) r->Ev (fun k=>bB.l0 k s l i) r)/\
 (¬(∀j,i<=j->j<l.length-> -1<=rd l j/\rd l j<=1)->Ev (fun k=>bB.l0 k s l i) false)
 |0,i,hd,hi=>by
  refine⟨fun _ r h=>Ev.s ?_,fun h=>absurd (fun j h1 h2=>by omega) h⟩;simp only[bB.l0,show ¬(i:Int)<(l.length:Int) by omega,if_false];exact h
 |d+1,i,hd,hi=>by
  have ih:=qk s l hl d (i+1) ac ac;have hw:wrap64 ((i:Int)+1)=((i+1:Nat):Int):=by rw[w64 ac ac];omega
  by_cases hb1:rd l i< -1
  · refine⟨fun h=>absurd (h i (Nat.le_refl _) ac) ac,fun h=>Ev.s ?_⟩
    simp only[bB.l0,show(i:Int)<(l.length:Int) by omega,show(0:Int)<=i by omega,hb1,if_true];exact Ev.const rfl
  · by_cases hb2:rd l i>1
    · refine⟨fun h=>absurd (h i (Nat.le_refl _) ac) ac,fun h=>Ev.s ?_⟩
      simp only[bB.l0,show(i:Int)<(l.length:Int) by omega,show(0:Int)<=i by omega,hb1,hb2,if_true,if_false];exact Ev.const rfl
    · refine⟨fun h r hr=>Ev.s ?_,fun h=>Ev.s ?_⟩
      · simp only[bB.l0,show(i:Int)<(l.length:Int) by omega,show(0:Int)<=i by omega,hb1,hb2,if_true,if_false,hw]
        exact ih.1 (fun j h1 h2=>h j ac h2) r hr
      · simp only[bB.l0,show(i:Int)<(l.length:Int) by omega,show(0:Int)<=i by omega,hb1,hb2,if_true,if_false,hw]
        refine ih.2 fun h'=>h fun j h1 h2=>?_
        by_cases e:j=i
        ·rw[e];omega
        ·exact h' j ac h2
def CK(s:ByteArray)(l:List Int):Prop:=1<=l.length/\l.length<=3/\s.size=2*l.length/\(∀j:Nat,j<l.length-> -1<=rd l j/\rd l j<=1)/\∃c,eg s s.size 0=some (0,c)
theorem F8(s:ByteArray)(hs:s.size<=1048576)(l:List Int)(hl:l.length<=1048576):
 ∃b:Bool,Ev (fun k=>bN.f k s l) b/\Ev (fun k=>bB.f k s l) b/\(b=true->CK s l):=by
 have c:=tL s hs l s.size 0 0 0 ac ac ac ac ac ac;have m:=fun x3 x4=>yH x3 x4 s l hl l.length 0 ac ac
 simp only[bN.f,bB.f];cases hw:eg s s.size 0 with
 |none=>
  refine⟨false,c.2 hw,?_,fun h=>by cases h⟩;by_cases h1:(l.length:Int)<1
  ·simp only[h1,if_true];exact Ev.const rfl
  · by_cases h3:(l.length:Int)>3
    ·simp only[h1,h3,if_true,if_false];exact Ev.const rfl
    · by_cases h2:(s.size:Int)=wrap64 (2*(l.length:Int))
      · simp only[h1,h3,if_false]
        simp only[if_pos h2];by_cases hb:∀j:Nat,0<=j->j<l.length-> -1<=rd l j/\rd l j<=1
        ·exact(qk s l ac l.length 0 ac ac).1 hb _ ((rI s hs s.size 0 0 ac ac ac).2 hw)
        ·exact(qk s l ac l.length 0 ac ac).2 hb
      · simp only[h1,h3,h2,if_false]
        exact Ev.const rfl
 |some p=>
  have hr:=vG s s.size 0 p ac hw;have F:(0:Int)+p.2=p.2:=ac;by_cases hb:∀j:Nat,0<=j->j<l.length-> -1<=rd l j/\rd l j<=1
  · refine⟨decide (p.1=0/\(1<=p.2/\p.2<=3)/\(l.length:Int)=p.2),c.1 p hw _ ?_,?_,fun h=>?_⟩
    ·rw[F];exact(m p.1 p.2).1 hb
    · by_cases h1:(l.length:Int)<1
      · simp only[h1,if_true]
        exact Ev.const (by congr 1;symm;rw[decide_eq_false_iff_not];omega)
      · by_cases h3:(l.length:Int)>3
        · simp only[h1,h3,if_true,if_false]
          exact Ev.const (by congr 1;symm;rw[decide_eq_false_iff_not];omega)
        · have o:wrap64 (2*(l.length:Int))=2*(l.length:Int):=w64 ac ac
          by_cases h2:(s.size:Int)=2*(l.length:Int)
          · simp only[h1,h3,if_false,o]
            simp only[if_pos h2];have hi:=(qk s l ac l.length 0 ac ac).1 hb _ ((rI s hs s.size 0 0 ac ac ac).1 p hw)
            have e:(p.1==0)=decide (p.1=0/\(1<=p.2/\p.2<=3)/\(l.length:Int)=p.2):=by
             rw[Bool.eq_iff_iff];simp only[beq_iff_eq,decide_eq_true_eq];omega
            rw[e]at hi;exact hi
          · simp only[h1,h3,h2,if_false,o]
            exact Ev.const (by congr 1;symm;rw[decide_eq_false_iff_not];omega)
    · have:=of_decide_eq_true h
      refine⟨ac,ac,ac,fun j hj=>hb j ac hj,p.2,?_⟩;rw[hw];congr 1;exact Prod.ext this.1 rfl
  · refine⟨false,c.1 p hw _ ?_,?_,fun h=>by cases h⟩
    ·exact(m p.1 _).2 hb
    · by_cases h1:(l.length:Int)<1
      ·simp only[h1,if_true];exact Ev.const rfl
      · by_cases h3:(l.length:Int)>3
        ·simp only[h1,h3,if_true,if_false];exact Ev.const rfl
        · by_cases h2:(s.size:Int)=wrap64 (2*(l.length:Int))
          · simp only[h1,h3,if_false]
            simp only[if_pos h2];exact(qk s l ac l.length 0 ac ac).2 hb
          · simp only[h1,h3,h2,if_false]
            exact Ev.const rfl
def kI:Nat->List (List Int)
 |0=>[[]]
 |n+1=>[-1,0,1].flatMap fun a=>(kI n).map fun l=>a::l
def jQ:Nat->List ByteArray
 |1=>[⟨#[40,41]⟩]
 |2=>[⟨#[40,40,41,41]⟩,⟨#[40,41,40,41]⟩]
 |3=>[⟨#[40,40,40,41,41,41]⟩,⟨#[40,40,41,40,41,41]⟩,⟨#[40,40,41,41,40,41]⟩,⟨#[40,41,40,40,41,41]⟩,⟨#[40,41,40,41,40,41]⟩]
 |_=>[]
def jd(P:ByteArray->List Int->Bool)(n:Nat):Bool:=(jQ n).all fun s=>(kI n).all fun l=>P s l
theorem uz:∀(l:List Int),(∀x∈l,-1<=x/\x<=1)->l∈kI l.length
 |[],_=>by simp[kI]
 |a::l,h=>by
  have ih:=uz l fun x hx=>h x (by simp[hx])
  have ha:=h a ay;simp only[List.length_cons,kI,List.mem_flatMap,List.mem_map];exact⟨a,by simp;omega,l,ih,rfl⟩
theorem ug(s:ByteArray):∀(d:Nat) (g:Int) (p:Int×Int),eg s d g=some p->∀q:Int,(s.size:Int)-d<=q->q<s.size->bt s q=40\/bt s q=41
 |0,g,p,h,q,h1,h2=>by omega
 |d+1,g,p,h,q,h1,h2=>by
  simp only[eg]at h;by_cases e:q=(s.size:Int)-((d+1:Nat):Int)
  · rw[e]
    by_cases b0:bt s ((s.size:Int)-((d+1:Nat):Int))=40
    ·exact .inl b0
    · by_cases b1:bt s ((s.size:Int)-((d+1:Nat):Int))=41
      ·exact .inr b1
      · rw[if_neg b0,if_neg b1]at h
        cases h
  · split at h
    · cases e2:eg s d (g+1)with
      |none=>rw[e2]at h;cases h
      |some q'=>exact ug s d (g+1) q' e2 q ac h2
    · split at h
      · split at h
        ·cases h
        ·exact ug s d (g-1) p h q ac h2
      ·cases h
theorem byte_of(b:UInt8)(h:((b.toNat:Int)=40)\/((b.toNat:Int)=41)):b=40\/b=41:=by
 rcases h with h|h
 ·left;apply UInt8.toNat_inj.1;simpa using (by omega:b.toNat=40)
 ·right;apply UInt8.toNat_inj.1;simpa using (by omega:b.toNat=41)
theorem EP(s:ByteArray)(n:Nat)(hn:s.size=n):∃l:List UInt8,l.length=n/\s=⟨l.toArray⟩:=by
 refine⟨s.data.toList,?_,?_⟩
 ·rw[Array.length_toList];exact hn
 ·apply ByteArray.ext;simp
theorem Il(l:List UInt8)(i:Nat)(h:i<l.length):bt ⟨l.toArray⟩ (i:Int)=(l[i].toNat:Int):=by
 have:=(kA ⟨l.toArray⟩ (i:Int) (by simpa [ByteArray.size]using h)).symm;rw[this];rfl
theorem Gf(s:ByteArray)(n:Nat)(h1:1<=n)(h3:n<=3)(hs:s.size=2*n)(c:Int)(hw:eg s s.size 0=some (0,c)):s∈jQ n:=by
 have hb:=ug s s.size 0 (0,c) hw;have o:(eg s s.size 0).map (fun p=>p.1)=some 0:=by rw[hw];rfl
 clear hw;obtain⟨l,hl,rfl⟩:=EP s (2*n) hs
 have j:∀i (h:i<l.length),l[i]=40\/l[i]=41:=fun i h=>byte_of _ (by
  have:=hb (i:Int) ac (by rw[hs];omega)
  rwa [Il l i h]at this)
 clear hb;have hc:n=1\/n=2\/n=3:=ac;rcases hc with rfl|rfl|rfl
 · obtain⟨a,b,rfl⟩:∃a b,l=[a,b]:=by
    match l,hl with
    |[a,b],_=>exact⟨a,b,rfl⟩
   · skip
     have h0:a=40\/a=41:=j 0 (show 0<2 by decide);have m:b=40\/b=41:=j 1 (show 1<2 by decide);rcases h0 with rfl|rfl<;>rcases m with rfl|rfl<;>first|(exact absurd o (by decide+kernel))|(simp[jQ];done)
 · obtain⟨a,b,c,d,rfl⟩:∃a b c d,l=[a,b,c,d]:=by
    match l,hl with
    |[a,b,c,d],_=>exact⟨a,b,c,d,rfl⟩
   · skip
     have g0:a=40\/a=41:=j 0 (show 0<4 by decide);have g1:b=40\/b=41:=j 1 (show 1<4 by decide);have g2:c=40\/c=41:=j 2 (show 2<4 by decide);have g3:d=40\/d=41:=j 3 (show 3<4 by decide);rcases g0 with rfl|rfl<;>rcases g1 with rfl|rfl<;>rcases g2 with rfl|rfl<;>rcases g3 with rfl|rfl<;>first|(exact absurd o (by decide+kernel))|(simp[jQ];done)
 · obtain⟨a,b,c,d,e,f,rfl⟩:∃a b c d e f,l=[a,b,c,d,e,f]:=by
    match l,hl with
    |[a,b,c,d,e,f],_=>exact⟨a,b,c,d,e,f,rfl⟩
   · skip
     have g0:a=40\/a=41:=j 0 (show 0<6 by decide);have g1:b=40\/b=41:=j 1 (show 1<6 by decide);have g2:c=40\/c=41:=j 2 (show 2<6 by decide);have g3:d=40\/d=41:=j 3 (show 3<6 by decide);have g4:e=40\/e=41:=j 4 (show 4<6 by decide);have g5:f=40\/f=41:=j 5 (show 5<6 by decide);rcases g0 with rfl|rfl<;>rcases g1 with rfl|rfl<;>rcases g2 with rfl|rfl<;>rcases g3 with rfl|rfl<;>rcases g4 with rfl|rfl<;>rcases g5 with rfl|rfl<;>first|(exact absurd o (by decide+kernel))|(simp[jQ];done)
theorem Ic(P:ByteArray->List Int->Bool)(h1:jd P 1=true)(h2:jd P 2=true)(h3:jd P 3=true)(s:ByteArray)(l:List Int)(h:CK s l):P s l=true:=by
 obtain⟨a1,a3,hs,m,c,hw⟩:=h;have hm:=Gf s l.length a1 a3 hs c hw
 have hl:∀x∈l,-1<=x/\x<=1:=by
  intro x hx;obtain⟨i,hi,rfl⟩:=List.mem_iff_getElem.1 hx;have:=m i hi
  rwa [dY l i hi]at this
 have b:=uz l hl
 have hn:jd P l.length=true:=by
  have hc:l.length=1\/l.length=2\/l.length=3:=ac;rcases hc with e|e|e<;>rw[e]<;>assumption
 unfold jd at hn;rw[List.all_eq_true]at hn;have:=hn s hm;rw[List.all_eq_true]at this;exact this l b
def sn:List UInt8->Nat->List Nat->List Nat->List Nat
 |[],_,_,m=>m
 |b::w,i,st,m=>if b=41 then(match st with|[]=>sn w (i+1) [] m|k::st=>sn w (i+1) st ((m.set i k).set k i))else sn w (i+1) (i::st) m
def oM(s:ByteArray):List Nat:=sn s.data.toList 0 [] (List.replicate s.data.toList.length 0)
def nZ:List UInt8->Int->List Int->List Int->List Int
 |[],_,_,_=>[]
 |b::w,c,st,l=>c::(if b=41 then(match st with|[]=>nZ w c [] l|d::st=>nZ w d st l)else(match l with|[]=>nZ w c (c::st) []|x::l=>nZ w (c+x) (c::st) l))
def mP(s:ByteArray)(l:List Int):List Int:=nZ s.data.toList 0 [] l
def dR(A:List Int)(i:Nat):Int:=A.getD i 0
def lG(N:Nat)(A:List Int)(v:Int)(k z y:Nat):Prop:=(z+k)%N=y/\∀i,i<k->1<=i->v<=dR A ((z+i)%N)
instance wayTDec(N:Nat)(A:List Int)(v:Int)(k z y:Nat):Decidable (lG N A v k z y):=by unfold lG;infer_instance
def arr(N:Nat)(A:List Int)(v:Int)(c:Nat)(P:Nat->Prop):Prop:=∀z,z<N->∀k,k<N+1->1<=k->dR A z=v->lG N A (v+1) k z c->P z
instance arrDec(N:Nat)(A:List Int)(v:Int)(c:Nat)(P:Nat->Prop)[∀z,Decidable (P z)]:Decidable (arr N A v c P):=by unfold arr;infer_instance
def oE(N:Nat)(mu:List Nat)(A t f:List Int)(B:Int):Prop:=
 t.length=2*N/\f.length=2*N/\(∀i,i<N->rd f ((2*i:Nat):Int)=((2*i+1:Nat):Int)/\rd f ((2*i+1:Nat):Int)=((2*i:Nat):Int))/\
 (∀w,w<N->arr N A (dR A ((mu.getD w 0+1)%N)+1) ((mu.getD w 0+1)%N) (fun z=>rd t ((2*w:Nat):Int)=((2*z+1:Nat):Int))/\
   (arr N A (dR A ((mu.getD w 0+1)%N)+1) ((mu.getD w 0+1)%N) (fun _=>False)->rd t ((2*w:Nat):Int)=((2*((mu.getD w 0+1)%N):Nat):Int)))/\
 (∀z,z<N->arr N A (dR A z) z (fun y=>rd t ((2*z+1:Nat):Int)=((2*y+1:Nat):Int))/\
   (arr N A (dR A z) z (fun _=>False)->∃c,c<N/\∃k,k<N+1/\1<=k/\lG N A (dR A z) k z c/\dR A c+1=dR A z/\rd t ((2*z+1:Nat):Int)=((2*c:Nat):Int)))/\
 ∃j,j<N/\B=((2*j+1:Nat):Int)/\∀i,i<N->dR A j<=dR A i
instance TabOkDec(N:Nat)(mu:List Nat)(A t f:List Int)(B:Int):Decidable (oE N mu A t f B):=by unfold oE;infer_instance
def oL(s:ByteArray)(l:List Int):Bool:=
 match bj.f 3000 s l with
 |some (t,f,p,true)=>decide (oE (2*l.length) (oM s) (mP s l) t f p)&&(decide (bu.f 3000 t f=some true)&&decide (bB.f 3000 s l=some true))
 |_=>false
theorem Gr:jd oL 1=true:=by decide+kernel
theorem DN:jd oL 2=true:=by decide+kernel
theorem F6:∀s∈jQ 3,∀a∈([-1,0,1]:List Int),∀b∈([-1,0,1]:List Int),(kI 1).all (fun l=>oL s (a::b::l))=true:=by
 intro s hs a ha b hb;simp only[jQ,List.mem_cons,List.not_mem_nil,or_false]at hs ha hb;rcases hs with rfl|rfl|rfl|rfl|rfl<;>rcases ha with rfl|rfl|rfl<;>rcases hb with rfl|rfl|rfl<;>decide+kernel
theorem EK:jd oL 3=true:=by
 unfold jd;rw[List.all_eq_true];intro s hs;rw[List.all_eq_true];intro l hl;rw[kI,List.mem_flatMap]at hl;obtain⟨a,ha,hl⟩:=hl;obtain⟨l1,m,rfl⟩:=List.mem_map.1 hl;rw[kI,List.mem_flatMap]at m;obtain⟨b,hb,m⟩:=m;obtain⟨l2,F,rfl⟩:=List.mem_map.1 m;exact List.all_eq_true.1 (F6 s hs a ha b hb) l2 F
theorem Hn(s:ByteArray)(l:List Int)(h:oL s l=true):∃t f p,Ev (fun k=>bj.f k s l) (t,f,p,true)/\oE (2*l.length) (oM s) (mP s l) t f p/\Ev (fun k=>bu.f k t f) true/\Ev (fun k=>bB.f k s l) true:=by
 unfold oL at h;split at h
 · rename_i t f p e
   simp only[Bool.and_eq_true,decide_eq_true_eq]at h;exact⟨t,f,p,Ev.of (fun k=>bj.mono _ _ k) e,h.1,Ev.of (fun k=>bu.mono _ _ k) h.2.1,Ev.of (fun k=>bB.mono _ _ k) h.2.2⟩
 ·cases h
theorem Ei(s:ByteArray)(l:List Int)(h:(l.length=1\/l.length=2\/l.length=3)/\s∈jQ l.length/\∀x∈l,-1<=x/\x<=1):∃t f p,Ev (fun k=>bj.f k s l) (t,f,p,true)/\oE (2*l.length) (oM s) (mP s l) t f p/\Ev (fun k=>bu.f k t f) true/\Ev (fun k=>bB.f k s l) true:=by
 obtain⟨h1,h2,h3⟩:=h;have h4:=uz l h3;refine Hn s l ?_;rcases h1 with e|e|e<;>rw[e]at h2 h4
 ·exact List.all_eq_true.1 (List.all_eq_true.1 Gr s h2) l h4
 ·exact List.all_eq_true.1 (List.all_eq_true.1 DN s h2) l h4
 ·exact List.all_eq_true.1 (List.all_eq_true.1 EK s h2) l h4
def lY(L:List Nat):Nat->ByteArray
 |0=>⟨#[]⟩
 |k+1=>if L.getD k 0<k then lY L k++(⟨#[41]⟩:ByteArray)else lY L k++(⟨#[40]⟩:ByteArray)
def mr(L:List Nat)(x:Nat->Int):Nat->List Int
 |0=>[]
 |k+1=>if L.getD k 0<k then mr L x k else mr L x k++[x (L.getD k 0)-x k]
def pe:Nat->List (List Nat)
 |1=>[[1,0]]
 |2=>[[1,0,3,2],[3,2,1,0]]
 |3=>[[1,0,3,2,5,4],[1,0,5,4,3,2],[3,2,1,0,5,4],[5,2,1,4,3,0],[5,4,3,2,1,0]]
 |_=>[]
theorem Iv:∀F,F<4->∀L∈pe F,(∃s∈jQ F,lY L (2*F)=s)/\∀w,w<2*F->(oM (lY L (2*F))).getD w 0=L.getD w 0:=by decide+kernel
theorem GZ:∀F,F<4->∀L∈pe F,(lY L (2*F)).data.toList=(List.range (2*F)).map fun i=>if L.getD i 0<i then 41 else 40:=by decide+kernel
theorem Hc(F:Nat)(L:List Nat)(hL:L∈pe F)(x:Nat->Int)(h:∀i,i<2*F->x (i+1)=x (L.getD i 0)/\(x (L.getD i 0)=x i+1\/x (L.getD i 0)=x i\/x (L.getD i 0)+1=x i)):
 (mr L x (2*F)).length=F/\(∀y∈mr L x (2*F),-1<=y/\y<=1)/\mP (lY L (2*F)) (mr L x (2*F))=(List.range (2*F)).map fun i=>x i-x 0:=by
 have h0:=h 0;have h1:=h 1;have h2:=h 2;have h3:=h 3;have h4:=h 4;have h5:=h 5;clear h;have hd:=fun z=>GZ F z L hL
 match F,hL with
 |1,hL|2,hL|3,hL=>
  have hd:=hd ac;simp only[pe,List.mem_cons,List.not_mem_nil,or_false]at hL;rcases hL with rfl|rfl|rfl|rfl|rfl<;>(rw[mP,hd];simp[List.range_succ,mr,nZ]at*;omega)
section
variable {t f g M:List Int} {n:Nat} (K:QTok t f g M n) {a:Nat} (ha:Dn n (nf f) (nf g) a)
include K ha
def sP(F:Nat):Prop:=n/2=2*F/\(stp t f g a (n/2)).length=F/\dN t f g a (n/2)∈jQ F/\(∀x∈stp t f g a (n/2),-1<=x/\x<=1)/\(∀w,w<n/2->(oM (dN t f g a (n/2))).getD w 0=eG K ha w)/\
 ∀i,i<n/2->dR (mP (dN t f g a (n/2)) (stp t f g a (n/2))) i=(nf g (wI t f g a i):Int)-(nf g (wI t f g a 0):Int)
theorem Eo(L:List Nat)(hm:∀i,i<n/2->L.getD i 0=eG K ha i)(k:Nat)(hk:k<n/2):iP t f g a k=true↔L.getD k 0<k:=by
 rw[Fw K ha k hk,hm k hk]
theorem zW(L:List Nat)(hm:∀i,i<n/2->L.getD i 0=eG K ha i):∀k,k<=n/2->dN t f g a k=lY L k/\stp t f g a k=mr L (fun i=>(nf g (wI t f g a i):Int)) k
 |0,_=>⟨rfl,rfl⟩
 |k+1,hk=>by
  obtain⟨e1,e2⟩:=zW L hm k ac;have c:=Eo K ha L hm k ac;rw[DZ K ha,dN,lY,mr,e1,e2,<-hm k ac];simp only[c];exact⟨trivial,trivial⟩
theorem EU(F:Nat)(hF:F<4)(h2:∀x,x<n->nf t (nf f (nf t (nf f x)))≠x)(hN:n/2=2*F)(L:List Nat)(hL:L∈pe F)(hm:∀i,i<n/2->L.getD i 0=eG K ha i):sP K ha F:=by
 obtain⟨e1,e2⟩:=zW K ha L hm (n/2) (Nat.le_refl _);obtain⟨⟨s,p1,p0⟩,p2⟩:=Iv F hF L hL
 obtain⟨q1,q2,q3⟩:=Hc F L hL (fun i=>(nf g (wI t f g a i):Int)) (fun i hi=>by
  have b:=Ig K ha h2 i;have l:=HX K ha i;rw[hm i ac];omega)
 unfold sP;rw[e1,e2,hN];refine⟨rfl,q1,p0▸p1,q2,fun w hw=>(p2 w hw).trans (hm w ac),fun i hi=>?_⟩;rw[q3,dR,List.getD_eq_getElem?_getD,List.getElem?_map,List.getElem?_range hi];rfl
def tj(L:List Nat)(N:Nat):Nat->Nat->Nat
 |0,x=>x
 |k+1,x=>tj L N k ((L.getD x 0+1)%N)
def two(N:Nat)(L:List Nat):Bool:=(List.range N).any fun y=>(List.range N).all fun i=>(List.range N).any fun k=>tj L N k 0==i||tj L N k y==i
theorem vJ(L:List Nat)(hm:∀i,i<n/2->L.getD i 0=eG K ha i):∀k x,x<n/2->Sv t f g n a x (tj L (n/2) k x)
 |0,x,_=>Reach.refl _ _ _
 |k+1,x,hx=>by
  have:=HS K ha x hx;rw[<-hm x hx]at this;exact Reach.trans this (vJ L hm k _ (Nat.mod_lt _ ac))
theorem FQ(hti:bL n t)(hV:4<=(aE t n n).2.length)(L:List Nat)(hm:∀i,i<n/2->L.getD i 0=eG K ha i)(h:two (n/2) L=true):False:=by
 simp only[two,List.any_eq_true,List.all_eq_true,List.mem_range,Bool.or_eq_true,beq_iff_eq]at h;obtain⟨y,hy,h⟩:=h;refine Ep K ha hti hV 0 y fun i hi=>?_
 obtain⟨k,_,e|e⟩:=h i hi
 ·exact .inl (e▸vJ K ha L hm k 0 ac)
 ·exact .inr (e▸vJ K ha L hm k y hy)
def wG(L:List Nat)(v:Nat):Bool:=v !=L.length&&(List.range L.length).all fun j=>(L.getD j 0==L.length)==(v==j)
def rX(N:Nat)(r:List Nat->Bool):Nat->List Nat->Bool
 |0,L=>r L
 |d+1,L=>(List.range N).all fun v=>!(wG L v)||rX N r d (L++[v])
omit K ha in
theorem zb(m:Nat->Nat)(k i:Nat)(h:i<k):((List.range k).map m).getD i 0=m i:=by
 rw[List.getD_eq_getElem?_getD,List.getElem?_map,List.getElem?_range h];rfl
omit K ha in
theorem De(N:Nat)(m:Nat->Nat)(h1:∀i,m i<N)(h2:∀i,m i≠i)(h3:∀i,i<N->m (m i)=i)(r:List Nat->Bool):∀d k,k+d=N->rX N r d ((List.range k).map m)=true->r ((List.range N).map m)=true
 |0,k,e,h=>by
  rw[<-e];exact h
 |d+1,k,e,h=>by
  simp only[rX,List.all_eq_true,List.mem_range]at h;have:=h (m k) (h1 k);refine De N m h1 h2 h3 r d (k+1) ac ?_;rw[List.range_succ,List.map_append]
  have ok:wG ((List.range k).map m) (m k)=true:=by
   simp only[wG,List.length_map,List.length_range,Bool.and_eq_true,bne_iff_ne,ne_eq,List.all_eq_true,List.mem_range,beq_iff_eq];refine⟨h2 k,fun j hj=>?_⟩;rw[zb m k j hj,Bool.eq_iff_iff,beq_iff_eq,beq_iff_eq];exact⟨fun z=>by rw[<-z];exact h3 j ac,fun z=>by rw[<-z];exact h3 k ac⟩
  rw[ok]at this;exact this
def wV(F:Nat)(L:List Nat):Bool:=decide (L∈pe F)||F !=1&&two (2*F) L
theorem uS(F:Nat)(hF:F=1\/F=2\/F=3)(hti:bL n t)(hV:F≠1->4<=(aE t n n).2.length)(h2:∀x,x<n->nf t (nf f (nf t (nf f x)))≠x)(hN:n/2=2*F):sP K ha F:=by
 have all:rX (2*F) (wV F) (2*F) []=true:=by rcases hF with rfl|rfl|rfl<;>decide+kernel
 have G:=De (2*F) (eG K ha) (fun i=>hN▸vN K ha i) (GF K ha h2) (fun i hi=>AA K ha i ac) (wV F) (2*F) 0 ac all;have hm:∀i,i<n/2->((List.range (2*F)).map (eG K ha)).getD i 0=eG K ha i:=fun i hi=>zb _ _ i ac
 simp only[wV,Bool.or_eq_true,Bool.and_eq_true,decide_eq_true_eq,bne_iff_ne]at G;rcases G with G|⟨G,G'⟩
 ·exact EU K ha F ac h2 hN _ G hm
 ·exact(FQ K ha hti (hV G) _ hm (hN▸G')).elim
end
def visit(s:List Int×List Int)(d:Int):List Int×List Int:=if rd s.1 d<0 then(s.1.set d.toNat (s.2.length:Int),s.2++[d])else s
def wk(t f:List Int):Nat->List Int->List Int->Nat->List Int
 |0,nm,od,i=>nm
 |k+1,nm,od,i=>if i<od.length then wk t f k (visit (visit (nm,od) (rd t (rd od (i:Int)))) (rd f (rd od (i:Int)))).1 (visit (visit (nm,od) (rd t (rd od (i:Int)))) (rd f (rd od (i:Int)))).2 (i+1)else nm
def NI(n:Nat)(s:List Int×List Int):Prop:=s.1.length=n/\(∀k:Nat,k<s.2.length->0<=rd s.2 (k:Int)/\rd s.2 (k:Int)<n/\rd s.1 (rd s.2 (k:Int))=k)/\∀x:Nat,x<n->rd s.1 (x:Int)<0\/(0<=rd s.1 (x:Int)/\rd s.1 (x:Int)<s.2.length/\rd s.2 (rd s.1 (x:Int))=x)
theorem mL(l:List Int)(v:Int)(k:Nat)(h:k<l.length):rd (l++[v]) (k:Int)=rd l (k:Int):=by
 rw[dY _ _ (by simp;omega),dY _ _ h,List.getElem_append_left h]
theorem oX(l:List Int)(v:Int):rd (l++[v]) (l.length:Int)=v:=by
 rw[dY _ _ ay];simp
theorem NI.visit{n:Nat}{s:List Int×List Int}(h:NI n s)(d:Int)(h0:0<=d)(h1:d<n):NI n (visit s d)/\0<=rd (Go.Proofs.Ytlpbalebodlipaa.PL.visit s d).1 d/\s.2.length<=(Go.Proofs.Ytlpbalebodlipaa.PL.visit s d).2.length/\(∀k:Nat,k<s.2.length->rd (Go.Proofs.Ytlpbalebodlipaa.PL.visit s d).2 (k:Int)=rd s.2 (k:Int))/\∀x:Nat,x<n->0<=rd s.1 (x:Int)->0<=rd (Go.Proofs.Ytlpbalebodlipaa.PL.visit s d).1 (x:Int):=by
 obtain⟨a,b,c⟩:=id h;have ed:((d.toNat:Nat):Int)=d:=ac;unfold Go.Proofs.Ytlpbalebodlipaa.PL.visit;by_cases z:rd s.1 d<0
 · rw[if_pos z]
   have put:∀x:Nat,rd (s.1.set d.toNat (s.2.length:Int)) (x:Int)=if x=d.toNat then(s.2.length:Int)else rd s.1 (x:Int):=fun x=>fN s.1 d.toNat x _ ac
   refine⟨⟨by simp[a],fun k hk=>?_,fun x hx=>?_⟩,?_,ay,fun k hk=>mL _ _ _ hk,fun x hx G=>?_⟩
   · simp only[List.length_append,List.length_cons,List.length_nil]at hk
     by_cases y:k<s.2.length
     · obtain⟨k1,k2,k3⟩:=b k y
       have eo:(((rd s.2 (k:Int)).toNat:Nat):Int)=rd s.2 (k:Int):=ac;show 0<=rd (s.2++[d]) (k:Int)/\rd (s.2++[d]) (k:Int)<n/\rd (s.1.set d.toNat (s.2.length:Int)) (rd (s.2++[d]) (k:Int))=k;rw[mL _ _ _ y];refine⟨k1,k2,?_⟩;rw[<-eo,put,if_neg,eo]
       ·exact k3
       · intro w
         have:rd s.2 (k:Int)=d:=ac;rw[this]at k3;omega
     · have:k=s.2.length:=ac
       subst this;show 0<=rd (s.2++[d]) (s.2.length:Int)/\rd (s.2++[d]) (s.2.length:Int)<n/\rd (s.1.set d.toNat (s.2.length:Int)) (rd (s.2++[d]) (s.2.length:Int))=s.2.length;rw[oX];refine⟨h0,h1,?_⟩;have pd:=put d.toNat;rw[ed,if_pos rfl]at pd;exact pd
   · show rd (s.1.set d.toNat (s.2.length:Int)) (x:Int)<0\/(0<=rd (s.1.set d.toNat (s.2.length:Int)) (x:Int)/\rd (s.1.set d.toNat (s.2.length:Int)) (x:Int)<((s.2++[d]).length:Nat)/\rd (s.2++[d]) (rd (s.1.set d.toNat (s.2.length:Int)) (x:Int))=x)
     rw[put];by_cases y:x=d.toNat
     · rw[if_pos y]
       right;refine⟨ac,by simp only[List.length_append,List.length_cons,List.length_nil];omega,?_⟩;rw[oX];omega
     · rw[if_neg y]
       rcases c x hx with w|⟨w1,w2,w3⟩
       ·exact .inl w
       · right
         refine⟨w1,by simp only[List.length_append,List.length_cons,List.length_nil];omega,?_⟩;have ew:(((rd s.1 (x:Int)).toNat:Nat):Int)=rd s.1 (x:Int):=ac;rw[<-ew,mL _ _ _ ac,ew];exact w3
   · show 0<=rd (s.1.set d.toNat (s.2.length:Int)) d
     have pd:=put d.toNat;rw[ed,if_pos rfl]at pd;rw[pd];omega
   · show 0<=rd (s.1.set d.toNat (s.2.length:Int)) (x:Int)
     rw[put];split
     ·omega
     ·exact G
 · rw[if_neg z]
   exact⟨h,ac,Nat.le_refl _,fun _ _=>rfl,fun _ _ q=>q⟩
theorem NI.le{n:Nat}{s:List Int×List Int}(h:NI n s):s.2.length<=n:=by
 obtain⟨a,b,c⟩:=h
 have nd:((List.range s.2.length).map fun(k:Nat)=>(rd s.2 (k:Int)).toNat).Nodup:=by
  refine List.pairwise_map.2 (List.Pairwise.imp_of_mem (fun {x y} hx hy hxy e=>hxy ?_) (List.nodup_range (n:=s.2.length)));have b1:=b x (List.mem_range.1 hx);have b2:=b y (List.mem_range.1 hy);have e:(rd s.2 (x:Int)).toNat=(rd s.2 (y:Int)).toNat:=e;have:rd s.2 (x:Int)=rd s.2 (y:Int):=ac;rw[this]at b1;omega
 have:=gG ((List.range s.2.length).map fun(k:Nat)=>(rd s.2 (k:Int)).toNat) (List.range n) nd (fun x hx=>by
  obtain⟨k,hk,rfl⟩:=List.mem_map.1 hx;have:=b k (List.mem_range.1 hk);exact List.mem_range.2 ac)
 simpa using this
theorem AY(t f nm od ds:List Int)(i:Int)(n:Nat)(hn:n<=12)(h:NI n (nm,od))(j:Nat)(hj:j<ds.length)(b:ds.length=2)(h0:0<=rd ds (j:Int))(h1:rd ds (j:Int)<n)(r:List Int)
 (e:Ev (fun k=>cx.l2 k (visit (nm,od) (rd ds (j:Int))).1 (visit (nm,od) (rd ds (j:Int))).2 i ds (ds.length:Int) ((j+1:Nat):Int) t f) r):Ev (fun k=>cx.l2 k nm od i ds (ds.length:Int) (j:Int) t f) r:=by
 have hl:=h.le;have hl:od.length<=n:=hl;have c:nm.length=n:=h.1;refine Ev.s ?_;simp only[cx.l2,show(j:Int)<(ds.length:Int) by omega,show(0:Int)<=(j:Int) by omega,h0,show rd ds (j:Int)<(nm.length:Int) by omega,if_true];rw[cM (show j<4611686018427387904 by omega)];unfold visit at e;by_cases z:rd nm (rd ds (j:Int))<0
 · simp only[z,if_true,show od.length<17592186044416 by omega]at e ⊢
   exact e
 · simp only[z,if_false]at e ⊢
   exact e
theorem zh(t f:List Int)(n:Nat)(hn:n<=12)(ht:inR n t)(hf:inR n f):∀(m:Nat) (nm od:List Int) (i:Nat),NI n (nm,od)->i<=od.length->n-i<m->Ev (fun k=>cx.l1 k nm od (i:Int) t f) (wk t f m nm od i)
 |0,nm,od,i,h,hi,hm=>by omega
 |m+1,nm,od,i,h,hi,hm=>by
  have hl:od.length<=n:=h.le;by_cases z:i<od.length
  · obtain⟨b1,b2,b3⟩:=h.2.1 i z
    have b1:0<=rd od (i:Int):=b1;have b2:rd od (i:Int)<n:=b2;have eo:(((rd od (i:Int)).toNat:Nat):Int)=rd od (i:Int):=ac;have rt:=ht.2 (rd od (i:Int)).toNat ac;have rf:=hf.2 (rd od (i:Int)).toNat ac;rw[eo]at rt rf;obtain⟨v1,v2,v3,v4,v5⟩:=h.visit (rd t (rd od (i:Int))) rt.1 rt.2;obtain⟨u1,u2,u3,u4,u5⟩:=v1.visit (rd f (rd od (i:Int))) rf.1 rf.2;have ih:=zh t f n hn ht hf m (visit (visit (nm,od) (rd t (rd od (i:Int)))) (rd f (rd od (i:Int)))).1 (visit (visit (nm,od) (rd t (rd od (i:Int)))) (rd f (rd od (i:Int)))).2 (i+1) u1 (by have:od.length<=_:=v3;omega) ac
    have hw:wk t f (m+1) nm od i=wk t f m (visit (visit (nm,od) (rd t (rd od (i:Int)))) (rd f (rd od (i:Int)))).1 (visit (visit (nm,od) (rd t (rd od (i:Int)))) (rd f (rd od (i:Int)))).2 (i+1):=by
     rw[wk,if_pos z]
    rw[hw];refine Ev.s ?_;have b:=ht.1;have E:=hf.1;simp only[cx.l1,show(i:Int)<(od.length:Int) by omega,show(0:Int)<=(i:Int) by omega,b1,show rd od (i:Int)<(t.length:Int) by omega,show rd od (i:Int)<(f.length:Int) by omega,if_true,Option.bind_some];have d0:rd [rd t (rd od (i:Int)),rd f (rd od (i:Int))] ((0:Nat):Int)=rd t (rd od (i:Int)):=rfl;have d1:rd [rd t (rd od (i:Int)),rd f (rd od (i:Int))] ((1:Nat):Int)=rd f (rd od (i:Int)):=rfl;refine AY t f nm od [rd t (rd od (i:Int)),rd f (rd od (i:Int))] i n hn h 0 ay rfl (by rw[d0];exact rt.1) (by rw[d0];exact rt.2) _ ?_;rw[d0];refine AY t f _ _ [rd t (rd od (i:Int)),rd f (rd od (i:Int))] i n hn v1 1 ay rfl (by rw[d1];exact rf.1) (by rw[d1];exact rf.2) _ ?_;rw[d1];refine Ev.s ?_;simp only[cx.l2,show ¬(((1+1:Nat):Int)<(([rd t (rd od (i:Int)),rd f (rd od (i:Int))]:List Int).length:Int)) by simp,if_false];rw[cM (show i<4611686018427387904 by omega)];exact ih
  · have hw:wk t f (m+1) nm od i=nm:=by rw[wk,if_neg z]
    rw[hw];refine Ev.s ?_;simp only[cx.l1,show ¬(i:Int)<(od.length:Int) by omega,if_false];exact Ev.const rfl
theorem Ak(t f:List Int)(n:Nat)(ht:inR n t)(hf:inR n f):∀(m:Nat) (nm od:List Int) (i:Nat),NI n (nm,od)->i<=od.length->n-i<m->(∀k:Nat,k<i->0<=rd nm (rd t (rd od (k:Int)))/\0<=rd nm (rd f (rd od (k:Int))))->
 ∃b,NI n (wk t f m nm od i,b)/\(∀k:Nat,k<b.length->0<=rd (wk t f m nm od i) (rd t (rd b (k:Int)))/\0<=rd (wk t f m nm od i) (rd f (rd b (k:Int))))/\∀x:Nat,x<n->0<=rd nm (x:Int)->0<=rd (wk t f m nm od i) (x:Int)
 |0,nm,od,i,h,hi,hm,hc=>by omega
 |m+1,nm,od,i,h,hi,hm,hc=>by
  have hl:od.length<=n:=h.le;by_cases z:i<od.length
  · obtain⟨b1,b2,b3⟩:=h.2.1 i z
    have b1:0<=rd od (i:Int):=b1;have b2:rd od (i:Int)<n:=b2;have eo:(((rd od (i:Int)).toNat:Nat):Int)=rd od (i:Int):=ac;have rt:=ht.2 (rd od (i:Int)).toNat ac;have rf:=hf.2 (rd od (i:Int)).toNat ac;rw[eo]at rt rf;obtain⟨v1,v2,v3,v4,v5⟩:=h.visit (rd t (rd od (i:Int))) rt.1 rt.2;obtain⟨u1,u2,u3,u4,u5⟩:=v1.visit (rd f (rd od (i:Int))) rf.1 rf.2;have v3:od.length<=_:=v3
    have hw:wk t f (m+1) nm od i=wk t f m (visit (visit (nm,od) (rd t (rd od (i:Int)))) (rd f (rd od (i:Int)))).1 (visit (visit (nm,od) (rd t (rd od (i:Int)))) (rd f (rd od (i:Int)))).2 (i+1):=by
     rw[wk,if_pos z]
    rw[hw]
    have more:∀x:Int,0<=x->x<n->0<=rd nm x->0<=rd (visit (visit (nm,od) (rd t (rd od (i:Int)))) (rd f (rd od (i:Int)))).1 x:=fun x x0 x1 hx=>by
     have:=u5 x.toNat ac (v5 x.toNat ac (by rw[show((x.toNat:Nat):Int)=x by omega];exact hx))
     rwa [show((x.toNat:Nat):Int)=x by omega]at this
    obtain⟨b,q1,q2,q3⟩:=Ak t f n ht hf m (visit (visit (nm,od) (rd t (rd od (i:Int)))) (rd f (rd od (i:Int)))).1 (visit (visit (nm,od) (rd t (rd od (i:Int)))) (rd f (rd od (i:Int)))).2 (i+1) u1 ac ac (fun k hk=>by
     have ek:rd (visit (visit (nm,od) (rd t (rd od (i:Int)))) (rd f (rd od (i:Int)))).2 (k:Int)=rd od (k:Int):=by
      rw[u4 k (by have:od.length<=(visit (nm,od) (rd t (rd od (i:Int)))).2.length:=v3;omega),v4 k (by show k<od.length;omega)]
     rw[ek];by_cases y:k=i
     · subst y
       refine⟨?_,u2⟩;have:=u5 (rd t (rd od (k:Int))).toNat ac (by rw[show(((rd t (rd od (k:Int))).toNat:Nat):Int)=rd t (rd od (k:Int)) by omega];exact v2)
       rwa [show(((rd t (rd od (k:Int))).toNat:Nat):Int)=rd t (rd od (k:Int)) by omega]at this
     · obtain⟨c1,c2⟩:=hc k ac
       obtain⟨k1,k2,_⟩:=h.2.1 k (by show k<od.length;omega);have k1:0<=rd od (k:Int):=k1;have k2:rd od (k:Int)<n:=k2;have c:(((rd od (k:Int)).toNat:Nat):Int)=rd od (k:Int):=ac;have kt:=ht.2 (rd od (k:Int)).toNat ac;have kf:=hf.2 (rd od (k:Int)).toNat ac;rw[c]at kt kf;exact⟨more _ kt.1 kt.2 c1,more _ kf.1 kf.2 c2⟩)
    exact⟨b,q1,q2,fun x hx G=>q3 x hx (more x ac ac G)⟩
  · have hw:wk t f (m+1) nm od i=nm:=by rw[wk,if_neg z]
    rw[hw];exact⟨od,h,fun k hk=>hc k ac,fun x _ q=>q⟩
def cn(t f:List Int)(n r:Nat):List Int:=wk t f (n+1) ((List.replicate n (-1)).set r 0) [(r:Int)] 0
theorem tp(n r:Nat)(hr:r<n):NI n ((List.replicate n (-1)).set r 0,[(r:Int)]):=by
 have put:∀x:Nat,x<n->rd ((List.replicate n (-1)).set r 0) (x:Int)=if x=r then 0 else-1:=fun x hx=>by
  rw[fN _ _ _ _ (by simpa using hr)];split
  ·rfl
  ·exact lg n (-1) x hx
 refine⟨ay,fun k hk=>?_,fun x hx=>?_⟩
 · simp only[List.length_cons,List.length_nil]at hk
   have:k=0:=ac;subst this;show 0<=(r:Int)/\(r:Int)<n/\rd ((List.replicate n (-1)).set r 0) (r:Int)=((0:Nat):Int);refine⟨ac,ac,?_⟩;rw[put r hr,if_pos rfl];rfl
 · show rd ((List.replicate n (-1)).set r 0) (x:Int)<0\/(0<=rd ((List.replicate n (-1)).set r 0) (x:Int)/\rd ((List.replicate n (-1)).set r 0) (x:Int)<(1:Nat)/\rd [(r:Int)] (rd ((List.replicate n (-1)).set r 0) (x:Int))=x)
   rw[put x hx];by_cases z:x=r
   · rw[if_pos z,z]
     exact .inr ⟨af,af,rfl⟩
   · rw[if_neg z]
     exact .inl af
theorem rY(t f:List Int)(n:Nat)(H:dE t f n)(r:Nat)(hr:r<n):inR n (cn t f n r)/\bL n (cn t f n r):=by
 obtain⟨hn,h1,ht,hi,hf,E,J⟩:=H;obtain⟨od,q1,q2,q3⟩:=Ak t f n ht hf (n+1) _ _ 0 (tp n r hr) (Nat.zero_le _) ac (fun k hk=>by omega);change NI n (cn t f n r,od)at q1;change ∀k:Nat,k<od.length->0<=rd (cn t f n r) (rd t (rd od (k:Int)))/\0<=rd (cn t f n r) (rd f (rd od (k:Int)))at q2;change ∀x:Nat,x<n->0<=rd ((List.replicate n (-1)).set r 0) (x:Int)->0<=rd (cn t f n r) (x:Int)at q3;have hl:od.length<=n:=q1.le;obtain⟨a,b,c⟩:=id q1;have a:(cn t f n r).length=n:=a;have b:∀k:Nat,k<od.length->0<=rd od (k:Int)/\rd od (k:Int)<n/\rd (cn t f n r) (rd od (k:Int))=k:=b;have c:∀x:Nat,x<n->rd (cn t f n r) (x:Int)<0\/(0<=rd (cn t f n r) (x:Int)/\rd (cn t f n r) (x:Int)<od.length/\rd od (rd (cn t f n r) (x:Int))=x):=c;have m:0<=rd (cn t f n r) (r:Int):=q3 r hr (by rw[fN _ _ _ _ (by simpa using hr),if_pos rfl];omega)
 have o:∀x:Nat,x<n->0<=rd (cn t f n r) (x:Int)->0<=rd (cn t f n r) (rd t (x:Int))/\0<=rd (cn t f n r) (rd f (x:Int)):=by
  intro x hx h0;rcases c x hx with w|⟨w1,w2,w3⟩
  ·omega
  · have:=q2 (rd (cn t f n r) (x:Int)).toNat ac
    rw[show(((rd (cn t f n r) (x:Int)).toNat:Nat):Int)=rd (cn t f n r) (x:Int) by omega,w3]at this;exact this
 have all:∀x:Nat,x<n->0<=rd (cn t f n r) (x:Int):=by
  intro x hx
  have ct:=jq t n ht hi (fun z=>z<n->0<=rd (cn t f n r) (z:Int)) (fun k hk hs B=>by
   have r:=ht.2 k hk;have:=(o k hk (hs hk)).1
   rwa [show(((rd t (k:Int)).toNat:Nat):Int)=rd t (k:Int) by omega])
  have cf:∀k:Nat,k<n->((k<n->0<=rd (cn t f n r) (k:Int))↔((rd f (k:Int)).toNat<n->0<=rd (cn t f n r) ((rd f (k:Int)).toNat:Int))):=by
   intro k hk;have rr:=hf.2 k hk;have e0:(((rd f (k:Int)).toNat:Nat):Int)=rd f (k:Int):=ac;constructor
   · intro hs _
     rw[e0];exact(o k hk (hs hk)).2
   · intro hs _
     have:=(o (rd f (k:Int)).toNat ac (hs ac)).2
     rwa [e0,(E k hk).2]at this
  refine((J r x hr hx) (fun z=>z<n->0<=rd (cn t f n r) (z:Int)) ?_).1 (fun _=>m) hx;intro p hp k hk;rcases List.mem_cons.1 hp with rfl|hp
  ·exact ct p ay k hk
  · rw[List.mem_singleton.1 hp]
    exact cf k hk
 refine⟨⟨a,fun x hx=>?_⟩,fun x y hx hy e=>?_⟩
 · rcases c x hx with w|⟨w1,w2,w3⟩
   · have:=all x hx
     omega
   ·exact⟨w1,ac⟩
 · rcases c x hx with w|⟨w1,w2,w3⟩
   · have:=all x hx
     omega
   · rcases c y hy with v|⟨v1,v2,v3⟩
     · have:=all y hy
       omega
     · rw[e]at w3
       omega
theorem yg(t f:List Int)(n:Nat)(hn:n<=12)(r:Nat)(hr:r<n)(o:List Int)(h:Ev (fun k=>cx.l1 k ((List.replicate n (-1)).set r 0) [(r:Int)] 0 t f) o):∀(d i:Nat) (y:List Int),n-i=d->i<=n->y.length=n->(∀z:Nat,z<i->rd y (z:Int)= -1)->Ev (fun k=>cx.l0 k (r:Int) y (n:Int) (i:Int) t f) o
 |0,i,y,hd,hi,hy,hz=>by
  have:i=n:=ac;subst this
  have ey:y=List.replicate i (-1):=jV _ _ (by simp[hy]) fun z v=>by
   rw[hz z ac,lg i (-1) z ac]
  subst ey;refine Ev.s ?_;simp only[cx.l0,show ¬(i:Int)<(i:Int) by omega,if_false,show(0:Int)<=(r:Int) by omega,List.length_replicate,show(r:Int)<(i:Int) by omega,if_true,Int.toNat_natCast];exact h
 |d+1,i,y,hd,hi,hy,hz=>by
  have ih:=yg t f n hn r hr o h d (i+1) (y.set i (-1)) ac ac (by simp[hy]) (fun z v=>by
   rw[fN _ _ _ _ ac];split
   ·rfl
   ·exact hz z ac)
  refine Ev.s ?_;simp only[cx.l0,show(i:Int)<(n:Int) by omega,show(0:Int)<=(i:Int) by omega,hy,if_true,Int.toNat_natCast];rw[cM (show i<4611686018427387904 by omega)];exact ih
theorem Hd(t f:List Int)(n:Nat)(H:dE t f n)(r:Nat)(hr:r<n):Ev (fun k=>cx.f k t f (r:Int)) (cn t f n r):=by
 obtain⟨hn,h1,ht,hi,hf,E,J⟩:=H;have w:=zh t f n hn ht hf (n+1) _ _ 0 (tp n r hr) (Nat.zero_le _) ac;have hl:=ht.1;unfold cx.f;simp only[hl,show(0:Int)<=(n:Int) by omega,Int.toNat_natCast,show n<=35184372088832 by omega,if_true,Option.bind_some,List.length_replicate];exact yg t f n hn r hr _ w n 0 (List.replicate n 0) ac ac ay (fun z hz=>by omega)
def iK(t nm:List Int)(n:Nat):List Int:=aX (aX (dD nm n n) t n) nm n
theorem Eg(t f nm:List Int)(n:Nat)(hn:n<=12)(ht:inR n t)(hf:inR n f)(hm:inR n nm):Ev (fun k=>gU.f k t f nm) (iK t nm n,iK f nm n):=by
 have hb:=Cs n ac nm hm;have b:=oy nm n;unfold gU.f;refine Ev.bind hb ?_;refine Ev.bind (ma n ac _ _ b ht) ?_;refine Ev.bind (ma n ac _ _ (jf n _ _ b ht) hm) ?_;refine Ev.bind hb ?_;refine Ev.bind (ma n ac _ _ b hf) ?_;refine Ev.bind (ma n ac _ _ (jf n _ _ b hf) hm) ?_;exact Ev.const rfl
def mD(n:Nat)(s:Nat->Nat)(t f t' f':List Int):Prop:=(∀x,x<n->s x<n)/\(∀x y,x<n->y<n->s x=s y->x=y)/\(∀x,x<n->rd t' ((s x:Nat):Int)=(s (rd t (x:Int)).toNat:Int))/\∀x,x<n->rd f' ((s x:Nat):Int)=(s (rd f (x:Int)).toNat:Int)
def ER(n:Nat)(s:Nat->Nat)(a b:List Int×List Int):Prop:=b.2.length=a.2.length/\(∀k:Nat,k<a.2.length->rd b.2 (k:Int)=(s (rd a.2 (k:Int)).toNat:Int))/\∀x,x<n->rd b.1 ((s x:Nat):Int)=rd a.1 (x:Int)
theorem ER.visit{n:Nat}{s:Nat->Nat}{a b:List Int×List Int}(h:ER n s a b)(ha:NI n a)(hb:NI n b)(s1:∀x,x<n->s x<n)(s2:∀x y,x<n->y<n->s x=s y->x=y)(d:Nat)(hd:d<n):ER n s (visit a (d:Int)) (visit b ((s d:Nat):Int)):=by
 obtain⟨e1,e2,e3⟩:=h;unfold Go.Proofs.Ytlpbalebodlipaa.PL.visit;rw[e3 d hd];by_cases z:rd a.1 (d:Int)<0
 · rw[if_pos z,if_pos z]
   refine⟨by simp[e1],fun k hk=>?_,fun x hx=>?_⟩
   · simp only[List.length_append,List.length_cons,List.length_nil]at hk
     show rd (b.2++[((s d:Nat):Int)]) (k:Int)=(s (rd (a.2++[(d:Int)]) (k:Int)).toNat:Int);by_cases y:k<a.2.length
     ·rw[mL _ _ _ y,mL _ _ _ ac,e2 k y]
     · have:k=a.2.length:=ac
       subst this;rw[oX,<-e1,oX,Int.toNat_natCast]
   · show rd (b.1.set ((s d:Nat):Int).toNat (b.2.length:Int)) ((s x:Nat):Int)=rd (a.1.set (d:Int).toNat (a.2.length:Int)) (x:Int)
     have l1:=ha.1;have l2:=hb.1;have sd:=s1 d hd;rw[Int.toNat_natCast,Int.toNat_natCast,fN _ _ _ _ ac,fN _ _ _ _ ac,e1];by_cases y:x=d
     ·rw[if_pos y,if_pos (by rw[y])]
     ·rw[if_neg y,if_neg (fun w=>y (s2 x d hx hd w)),e3 x hx]
 · rw[if_neg z,if_neg z]
   exact⟨e1,e2,e3⟩
theorem yA(n:Nat)(s:Nat->Nat)(t f t' f':List Int)(ht:inR n t)(hf:inR n f)(c:inR n t')(j:inR n f')(I:mD n s t f t' f'):∀(m:Nat) (nm od k b:List Int) (i:Nat),NI n (nm,od)->NI n (k,b)->ER n s (nm,od) (k,b)->∀x,x<n->rd (wk t' f' m k b i) ((s x:Nat):Int)=rd (wk t f m nm od i) (x:Int)
 |0,nm,od,k,b,i,h,h',e,x,hx=>by
  rw[wk,wk];exact e.2.2 x hx
 |m+1,nm,od,k,b,i,h,h',e,x,hx=>by
  obtain⟨s1,s2,s3,s4⟩:=id I;have e1:b.length=od.length:=e.1;rw[wk,wk,e1];by_cases z:i<od.length
  · rw[if_pos z,if_pos z]
    obtain⟨b1,b2,b3⟩:=h.2.1 i z;have b1:0<=rd od (i:Int):=b1;have b2:rd od (i:Int)<n:=b2;have eo:(((rd od (i:Int)).toNat:Nat):Int)=rd od (i:Int):=ac;have ei:rd b (i:Int)=(s (rd od (i:Int)).toNat:Int):=e.2.1 i z;have rt:=ht.2 (rd od (i:Int)).toNat ac;have rf:=hf.2 (rd od (i:Int)).toNat ac;have ft:=s3 (rd od (i:Int)).toNat ac;have ff:=s4 (rd od (i:Int)).toNat ac;rw[eo]at rt rf ft ff;rw[ei,ft,ff];have et:(((rd t (rd od (i:Int))).toNat:Nat):Int)=rd t (rd od (i:Int)):=ac;have ef:(((rd f (rd od (i:Int))).toNat:Nat):Int)=rd f (rd od (i:Int)):=ac;have st:=s1 (rd t (rd od (i:Int))).toNat ac;have sf:=s1 (rd f (rd od (i:Int))).toNat ac;have E1:=e.visit h h' s1 s2 (rd t (rd od (i:Int))).toNat ac;obtain⟨v1,_⟩:=h.visit (rd t (rd od (i:Int))) rt.1 rt.2;obtain⟨o,_⟩:=h'.visit ((s (rd t (rd od (i:Int))).toNat:Nat):Int) ac ac;rw[et]at E1;have E2:=E1.visit v1 o s1 s2 (rd f (rd od (i:Int))).toNat ac;obtain⟨u1,_⟩:=v1.visit (rd f (rd od (i:Int))) rf.1 rf.2;obtain⟨q,_⟩:=o.visit ((s (rd f (rd od (i:Int))).toNat:Nat):Int) ac ac;rw[ef]at E2;exact yA n s t f t' f' ht hf c j I m _ _ _ _ (i+1) u1 q E2 x hx
  · rw[if_neg z,if_neg z]
    exact e.2.2 x hx
theorem Gl(n:Nat)(s:Nat->Nat)(t f t' f':List Int)(ht:inR n t)(hf:inR n f)(c:inR n t')(j:inR n f')(I:mD n s t f t' f')(r:Nat)(hr:r<n)(x:Nat)(hx:x<n):rd (cn t' f' n (s r)) ((s x:Nat):Int)=rd (cn t f n r) (x:Int):=by
 refine yA n s t f t' f' ht hf c j I (n+1) _ _ _ _ 0 (tp n r hr) (tp n (s r) (I.1 r hr)) ⟨rfl,fun k hk=>?_,fun y hy=>?_⟩ x hx
 · simp only[List.length_cons,List.length_nil]at hk
   have:k=0:=ac;subst this;show((s r:Nat):Int)=(s (r:Int).toNat:Int);rw[Int.toNat_natCast]
 · show rd ((List.replicate n (-1)).set (s r) 0) ((s y:Nat):Int)=rd ((List.replicate n (-1)).set r 0) (y:Int)
   rw[fN _ _ _ _ (by simpa using I.1 r hr),fN _ _ _ _ (by simpa using hr)];by_cases z:y=r
   ·rw[if_pos z,if_pos (by rw[z])]
   ·rw[if_neg z,if_neg (fun w=>z (I.2.1 y r hy hr w)),lg n (-1) y hy,lg n (-1) (s y) (I.1 y hy)]
theorem DV(n:Nat)(s:Nat->Nat)(t f t' f':List Int)(H:dE t f n)(H':dE t' f' n)(I:mD n s t f t' f')(r:Nat)(hr:r<n):iK t' (cn t' f' n (s r)) n=iK t (cn t f n r) n/\iK f' (cn t' f' n (s r)) n=iK f (cn t f n r) n:=by
 obtain⟨hn,h1,ht,hi,hf,E,J⟩:=id H;obtain⟨_,_,c,hi',j,_,_⟩:=id H';obtain⟨a1,a2⟩:=rY t f n H r hr;obtain⟨b1,b2⟩:=rY t' f' n H' (s r) (I.1 r hr);have eq:=fun x hx=>Gl n s t f t' f' ht hf c j I r hr x hx
 have b:∀k:Nat,k<n->∃x:Nat,x<n/\rd (cn t f n r) (x:Int)=k:=by
  intro k hk;obtain⟨m,_,h2⟩:=o8 (cn t f n r) n a1 a2 k ac;have hin:=gH (cn t f n r) n a1 m k ac;refine⟨(itr (cn t f n r) m k).toNat,ac,?_⟩;rw[show(((itr (cn t f n r) m k).toNat:Nat):Int)=itr (cn t f n r) m k by omega];rw[iZ]at h2;exact h2
 have B:∀(p p':List Int),inR n p->(∀x,x<n->rd p' ((s x:Nat):Int)=(s (rd p (x:Int)).toNat:Int))->iK p' (cn t' f' n (s r)) n=iK p (cn t f n r) n:=by
  intro p p' hp e;unfold iK;refine jV _ _ (by rw[ie,ie]) fun k hk=>?_
  rw[ie]at hk;rw[iy _ _ n k hk,iy _ _ n k hk,iy _ _ n k hk,iy _ _ n k hk];obtain⟨x,hx,ex⟩:=b k hk;have r1:=po (cn t f n r) n a1 a2 n (Nat.le_refl _) x hx;rw[ex]at r1;have r2:=po (cn t' f' n (s r)) n b1 b2 n (Nat.le_refl _) (s x) (I.1 x hx);rw[eq x hx,ex]at r2;have pr:=hp.2 x hx;rw[r1,r2,e x hx,eq _ ac,show(((rd p (x:Int)).toNat:Nat):Int)=rd p (x:Int) by omega]
 exact⟨B t t' ht I.2.2.1,B f f' hf I.2.2.2⟩
noncomputable def lO(t f g:List Int)(a x:Nat):Nat:=if x%2=0 then wI t f g a (x/2)else nf f (wI t f g a (x/2))
theorem kk(t f g:List Int)(a w:Nat):lO t f g a (2*w)=wI t f g a w:=by unfold lO;rw[if_pos ac,show 2*w/2=w by omega]
theorem ky(t f g:List Int)(a w:Nat):lO t f g a (2*w+1)=nf f (wI t f g a w):=by unfold lO;rw[if_neg ac,show(2*w+1)/2=w by omega]
section
variable {t f g M:List Int} {n:Nat} (K:QTok t f g M n) {a:Nat} (ha:Dn n (nf f) (nf g) a) (A:List Int) (u:Int) (hl:∀i,i<n/2->dR A i=(nf g (wI t f g a i):Int)-u)
include K ha hl
theorem Ba{v k z y:Nat}(hz:z<n/2)(hy:y<n/2)(h:Way (nf t) (nf f) (nf g) v k (wI t f g a z) (wI t f g a y))(v':Int)(hv:v'=(v:Int)-u):lG (n/2) A v' k z y:=by
 have hp:=td K ha;refine⟨?_,fun i hi h1=>?_⟩
 · have e:=h.1
   rw[qA,mE K ha]at e;exact qT K ha (Nat.mod_lt _ hp) hy e
 · have e:=h.2 i h1 hi
   rw[qA,mE K ha]at e;rw[hl _ (Nat.mod_lt _ hp)];omega
theorem vT{v k z y:Nat}(hz:z<n/2)(hy:y<n/2)(v':Int)(hv:v'=(v:Int)-u)(h:lG (n/2) A v' k z y):Way (nf t) (nf f) (nf g) v k (wI t f g a z) (wI t f g a y):=by
 have hp:=td K ha;refine⟨?_,fun i h1 hi=>?_⟩
 ·rw[qA,mE K ha,h.1]
 · have e:=h.2 i hi h1
   rw[hl _ (Nat.mod_lt _ hp)]at e;rw[qA,mE K ha];omega
omit hl in
theorem CQ{k z:Nat}{y:Nat}(h:Way (nf t) (nf f) (nf g) (nf g (wI t f g a z)+1) k (wI t f g a z) y):k<n/2+1:=by
 have hp:=td K ha;by_cases c:k<=n/2
 ·omega
 · exfalso
   have e:=h.2 (n/2) hp ac;rw[qA,mE K ha (z+n/2),Nat.add_mod_right,<-mE K ha]at e;omega
theorem HF{w:Nat}(hw:w<n/2)(xt:List Int)(c:Nat)(hc:c<n/2)(hF:FN (nf t) (nf f) (nf g) (nf t (wI t f g a w)) (wI t f g a c))
 (ta:arr (n/2) A (dR A c+1) c (fun z=>rd xt ((2*w:Nat):Int)=((2*z+1:Nat):Int)))(tb:arr (n/2) A (dR A c+1) c (fun _=>False)->rd xt ((2*w:Nat):Int)=((2*c:Nat):Int)):
 nf t (wI t f g a w)=lO t f g a (rd xt ((2*w:Nat):Int)).toNat:=by
 have lc:=hl c hc;by_cases hx:arr (n/2) A (dR A c+1) c (fun _=>False)
 · rw[tb hx,Int.toNat_natCast,kk]
   refine K.Q.DJ (gu K ha w) hF fun z k hz e hk o=>?_
   obtain⟨i,i1,rfl⟩:=qd K ha hz;have li:=hl i i1;exact hx i i1 k (CQ K ha o) hk ac (Ba K ha A u hl i1 hc o _ ac)
 · have ex:∃z k,z<n/2/\k<n/2+1/\1<=k/\dR A z=dR A c+1/\lG (n/2) A (dR A c+1+1) k z c:=
    Classical.byContradiction fun r=>hx fun z hz k hk h1 e o=>r ⟨z,k,hz,hk,h1,e,o⟩
   obtain⟨z,k,hz,hk,h1,e,o⟩:=ex;have lz:=hl z hz;rw[ta z hz k hk h1 e o,Int.toNat_natCast,ky];exact K.Q.FP (gu K ha w) hF (gu K ha z) ac h1 (vT K ha A u hl hz hc _ ac o)
theorem Hr{z:Nat}(hz:z<n/2)(xt:List Int)
 (ta:arr (n/2) A (dR A z) z (fun y=>rd xt ((2*z+1:Nat):Int)=((2*y+1:Nat):Int)))
 (tb:arr (n/2) A (dR A z) z (fun _=>False)->∃c,c<n/2/\∃k,k<n/2+1/\1<=k/\lG (n/2) A (dR A z) k z c/\dR A c+1=dR A z/\rd xt ((2*z+1:Nat):Int)=((2*c:Nat):Int)):
 nf t (nf f (wI t f g a z))=lO t f g a (rd xt ((2*z+1:Nat):Int)).toNat:=by
 have lz:=hl z hz;by_cases hx:arr (n/2) A (dR A z) z (fun _=>False)
 · obtain⟨c,hc,k,hk,h1,w1,e1,e2⟩:=tb hx
   have lc:=hl c hc;rw[e2,Int.toNat_natCast,kk]
   obtain⟨c',k',m,dc,w2,e3,e4⟩:=K.Q.Ej (gu K ha z) fun y k hy e hk o=>by
    obtain⟨i,i1,rfl⟩:=qd K ha hy;have li:=hl i i1;rw[<-e]at o;exact hx i i1 k (CQ K ha o) hk ac (Ba K ha A u hl i1 hz o _ ac)
   have w3:=vT K ha A u hl hz hc (v:=nf g (wI t f g a z)) _ ac w1;rw[e4];exact(w2.first w3 m h1 ac ac).2
 · have ex:∃y k,y<n/2/\k<n/2+1/\1<=k/\dR A y=dR A z/\lG (n/2) A (dR A z+1) k y z:=
    Classical.byContradiction fun r=>hx fun y hy k hk h1 e o=>r ⟨y,k,hy,hk,h1,e,o⟩
   obtain⟨y,k,hy,hk,h1,e,o⟩:=ex;have ly:=hl y hy;rw[ta y hy k hk h1 e o,Int.toNat_natCast,ky];exact K.Q.FD (gu K ha z) (gu K ha y) ac h1 (vT K ha A u hl hy hz _ ac o)
theorem Gi(mu:List Nat)(xt xf:List Int)(B:Int)(T:oE (n/2) mu A xt xf B)(hm:∀w,w<n/2->mu.getD w 0=eG K ha w):
 mD n (lO t f g a) xt xf t f/\∃j,j<n/2/\B=((2*j+1:Nat):Int)/\∀i,i<n/2->nf g (wI t f g a j)<=nf g (wI t f g a i):=by
 obtain⟨T1,T2,T3,T4,T5,j,j1,j2,j3⟩:=T;have ev:=pM K;have dn:=gu K ha;have two:∀x,x<n->∃w,w<n/2/\(x=2*w\/x=2*w+1):=fun x hx=>⟨x/2,ac,ac⟩
 refine⟨⟨fun x hx=>?_,fun x y hx hy e=>?_,fun x hx=>?_,fun x hx=>?_⟩,j,j1,j2,fun i hi=>?_⟩
 · obtain⟨w,w1,rfl|rfl⟩:=two x hx
   ·rw[kk];exact(dn w).1
   ·rw[ky];exact K.Q.fr _ (dn w).1
 · have mix:∀p q,wI t f g a p=nf f (wI t f g a q)->False:=fun p q e=>by
    have h1:=(dn p).2;have h2:=(dn q).2;have h3:=K.Q.ff _ (dn q).1;rw[e,h3]at h1;omega
   obtain⟨w,w1,rfl|rfl⟩:=two x hx<;>obtain⟨v,v1,rfl|rfl⟩:=two y hy
   · rw[kk,kk]at e
     rw[qT K ha w1 v1 e]
   · rw[kk,ky]at e
     exact(mix _ _ e).elim
   · rw[kk,ky]at e
     exact(mix _ _ e.symm).elim
   · rw[ky,ky]at e
     have e2:wI t f g a w=wI t f g a v:=by rw[<-K.Q.ff _ (dn w).1,e,K.Q.ff _ (dn v).1]
     rw[qT K ha w1 v1 e2]
 · obtain⟨w,w1,rfl|rfl⟩:=two x hx
   · rw[kk,(fA K.ht (dn w).1).1]
     have h4:=T4 w w1;rw[hm w w1]at h4;exact congrArg Int.ofNat (HF K ha A u hl w1 xt _ (Nat.mod_lt _ (td K ha)) (AQ K ha w w1) h4.1 h4.2)
   · rw[ky,(fA K.ht (K.Q.fr _ (dn w).1)).1]
     exact congrArg Int.ofNat (Hr K ha A u hl w1 xt (T5 w w1).1 (T5 w w1).2)
 · obtain⟨w,w1,rfl|rfl⟩:=two x hx
   ·rw[kk,(fA K.hf (dn w).1).1,(T3 w w1).1,Int.toNat_natCast,ky]
   ·rw[ky,(fA K.hf (K.Q.fr _ (dn w).1)).1,(T3 w w1).2,Int.toNat_natCast,kk,K.Q.ff _ (dn w).1]
 · have:=j3 i hi
   rw[hl j j1,hl i hi]at this;omega
end
theorem rK{n:Nat}{s:Nat->Nat}{t f t' f':List Int}(I:mD n s t f t' f')(ht:inR n t):∀(k x:Nat),x<n->itr t' k ((s x:Nat):Int)=((s (itr t k (x:Int)).toNat:Nat):Int)
 |0,x,hx=>by show((s x:Nat):Int)=((s ((x:Int)).toNat:Nat):Int);rw[Int.toNat_natCast]
 |k+1,x,hx=>by
  have h:=ht.2 x hx;show itr t' k (rd t' ((s x:Nat):Int))=((s (itr t k (rd t (x:Int))).toNat:Nat):Int);rw[I.2.2.1 x hx,rK I ht k _ ac,show(((rd t (x:Int)).toNat:Nat):Int)=rd t (x:Int) by omega]
theorem GK{n:Nat}{s:Nat->Nat}{t f t' f':List Int}(I:mD n s t f t' f')(H:dE t f n)(H':dE t' f' n)(a:Nat)(ha:a<n)(g g':List Int)(hg:dG t f n a g)(b:dG t' f' n (s a) g')(x:Nat)(hx:x<n):rd g' ((s x:Nat):Int)=rd g (x:Int):=by
 obtain⟨hn,h1,ht,hti,hf,E,J⟩:=id H;obtain⟨w,m,c,q,j,G,F⟩:=id H'
 have back:∀y x:Nat,y<n->x<n->Reach [t'] n (s y) (s x)->Reach [t] n y x:=fun y x hy hx r=>by
  obtain⟨k,hk⟩:=oU t' n c q (s y) (s x) (I.1 y hy) r;have h2:=ht.2 y hy;have e:itr t' (k+1) ((s y:Nat):Int)=((s x:Nat):Int):=hk;rw[rK I ht (k+1) y hy]at e;have h3:=gH t n ht (k+1) (y:Int) ac;have e2:=I.2.1 _ _ ac hx (Int.ofNat.inj e);have:=nQ [t] t n ht ay (k+1) (y:Int) ac;rw[e2]at this;simpa using this
 have o:∀y x:Nat,y<n->x<n->Reach [t] n y x->Reach [t'] n (s y) (s x):=fun y x hy hx r=>by
  obtain⟨k,hk⟩:=oU t n ht hti y x hy r;have e:itr t (k+1) (y:Int)=(x:Int):=hk;have e2:=rK I ht (k+1) y hy;rw[e,Int.toNat_natCast]at e2;have:=nQ [t'] t' n c ay (k+1) ((s y:Nat):Int) (by have:=I.1 y hy;omega);rw[e2]at this;simpa using this
 have D:∀(v x:Nat),x<n->rd g (x:Int)=v->rd g' ((s x:Nat):Int)<=v:=by
  intro v
  induction v with
  |zero=>
   intro x hx e;have:=lF c q g' b.turn (o _ _ hx ha (hg.zero x hx ac));rw[this,b.start];omega
  |succ v ih=>
   intro x hx e;obtain⟨y,y1,y2,y3⟩:=hg.back x hx ac;have fy:=hf.2 y y1;have e1:=lF c q g' b.turn (o _ _ y1 hx y2);have e2:=b.flip (s y) (I.1 y y1);rw[I.2.2.2 y y1]at e2;have e3:=ih (rd f (y:Int)).toNat ac (by rw[show(((rd f (y:Int)).toNat:Nat):Int)=rd f (y:Int) by omega];omega);omega
 have B:∀(v x:Nat),x<n->rd g' ((s x:Nat):Int)=v->rd g (x:Int)<=v:=by
  intro v
  induction v with
  |zero=>
   intro x hx e;have:=lF ht hti g hg.turn (back _ _ hx ha (b.zero (s x) (I.1 x hx) ac));rw[this,hg.start];omega
  |succ v ih=>
   intro x hx e;obtain⟨y',y1,y2,y3⟩:=b.back (s x) (I.1 x hx) ac;obtain⟨k,hk⟩:=oU t' n c q (s x) y' (I.1 x hx) y2.symm;have hk:itr t' (k+1) ((s x:Nat):Int)=(y':Int):=hk;rw[rK I ht (k+1) x hx]at hk;have h3:=gH t n ht (k+1) (x:Int) ac;generalize hy:(itr t (k+1) (x:Int)).toNat=y at*;have yn:y<n:=ac;have ey:s y=y':=Int.ofNat.inj hk;subst ey;have r:=back _ _ yn hx y2;have e1:=lF ht hti g hg.turn r;rw[I.2.2.2 y yn]at y3;have fy:=hf.2 y yn;have e3:=ih (rd f (y:Int)).toNat ac ac;have e2:=hg.flip y yn;rw[show(((rd f (y:Int)).toNat:Nat):Int)=rd f (y:Int) by omega]at e3;omega
 have r1:=hg.rng x hx;have r2:=b.rng (s x) (I.1 x hx);have a1:=D (rd g (x:Int)).toNat x hx ac;have a2:=B (rd g' ((s x:Nat):Int)).toNat x hx ac;omega
end Go.Proofs.Ytlpbalebodlipaa.PL
namespace Go.Proofs.Ytlpbalebodlipaa.PL
open Go.RowKit Go.Proofs.YtlpbalebodlipaaW.PrintWords Go.Proofs.YtlpbalebodlipaaW.PrintLast Go.Proofs.YtlpbalebodlipaaW.PrintMore
attribute [local go_sem] jp jv jl jo jC jy ji je
set_option linter.unusedVariables false
set_option linter.unusedSimpArgs false
mutual
def fB.j0:Nat->Bool->List Int->List Int->Option (List Int×List Int×Bool)
 |0,_,_,_=>none
 |k+1,j,x1161000,c=>if j=true then(some (([]:List Int),([]:List Int),false))else((dJ.f k c x1161000).bind fun m=>((fW.f k m).bind fun h=>(if 0<=(wrap64 (2*(x1161000.length:Int)))then(if(wrap64 (2*(x1161000.length:Int)):Int).toNat<=35184372088832 then(fB.l0 k h (x1161000.length:Int) 0 x1161000 c (List.replicate (wrap64 (2*(x1161000.length:Int)):Int).toNat 0) (List.replicate (wrap64 (2*(x1161000.length:Int)):Int).toNat 0))else(none))else(none))))
def fB.l0:Nat->List Int->Int->Int->List Int->List Int->List Int->List Int->Option (List Int×List Int×Bool)
 |0,_,_,_,_,_,_,_=>none
 |k+1,x5,x34,b,x1161000,c,e,x1176001=>if b<x34 then(if 0<=(wrap64 (2*b))then(if(wrap64 (2*b))<(x1176001.length:Int)then(if 0<=(wrap64 ((wrap64 (2*b))+1))then(if(wrap64 ((wrap64 (2*b))+1))<(x1176001.length:Int)then(if 0<=b then(if b<(x1161000.length:Int)then(if(wrap64 (2*b))<(e.length:Int)then(if b<(x5.length:Int)then(if(wrap64 ((wrap64 (2*b))+1))<(e.length:Int)then(fB.l0 k x5 x34 (wrap64 (b+1)) x1161000 c ((e.set ((wrap64 (2*b)):Int).toNat (wrap64 (2*(rd x1161000 b)))).set ((wrap64 ((wrap64 (2*b))+1)):Int).toNat (wrap64 ((wrap64 (2*(rd x5 b)))+1))) ((x1176001.set ((wrap64 (2*b)):Int).toNat (wrap64 ((wrap64 (2*b))+1))).set ((wrap64 ((wrap64 (2*b))+1)):Int).toNat (wrap64 (2*b))))else(none))else(none))else(none))else(none))else(none))else(none))else(none))else(none))else(none))else(some (e,x1176001,true))
end
def fB.f(k:Nat)(j:List Int)(s:List Int):Option (List Int×List Int×Bool):=(bu.f k j s).bind fun b=>(if b=true then(fB.j0 k (decide ((j.length:Int)>6)) j s)else(fB.j0 k true j s))
def fB.T5:Bool×List (List Nat×List Nat):=(true,[([],[]),([0],[0]),([1,1],[1]),([],[]),([3],[3]),([4,4],[4]),([2,5],[2,5]),([],[]),([7,6,0,1,2,3,4,5,6,7],[6,7])])
def fB.T9:Bool×List (List Nat×List Nat):=(true,[([],[]),([0],[0]),([],[]),([2],[2]),([],[]),([4],[4]),([],[]),([6],[6]),([7],[7]),([],[]),([9],[9]),([10],[10]),([],[]),([12],[12]),([1,3,0,1,2,3,9,10,11],[1,3]),([14,11,0,1,2,3,9,10,11],[11,14]),([5,8,0,1,2,3,4,5,6,7,8,9,10,11,12,13,14,15],[5,8]),([16,13,15,0,1,2,3,4,5,6,7,8,9,10,11,12,13,14,15],[13,16])])
def fB.B9:List Nat:=[0,1,0,4,0,16,0,64,192,0,512,1536,0,4096,3599,19983,65535,131071]
def fB.T10:Bool×List (List Nat×List Nat):=(true,[([],[]),([0],[0]),([],[]),([2],[2]),([],[]),([4],[4]),([],[]),([5,6],[5,6]),([7],[7]),([8],[8]),([1,3,0,1,2,3,4,5,6,7,8,9],[1,3]),([10,9,0,1,2,3,4,5,6,7,8,9],[9,10])])
def fB.B10:List Nat:=[0,1,0,4,0,16,0,112,240,496,1023,2047]
def fB.T11:Bool×List (List Nat×List Nat):=(true,[([],[]),([0],[0]),([],[]),([2],[2]),([3],[3]),([],[]),([],[]),([5,6],[5,6]),([7],[7]),([8],[8]),([9],[9]),([1,4,0,1,2,3,4,5,6,7,8,9,10],[1,4]),([11,10,0,1,2,3,4,5,6,7,8,9,10],[10,11])])
def fB.B11:List Nat:=[0,1,0,4,12,0,0,96,224,480,992,2047,4095]
end Go.Proofs.Ytlpbalebodlipaa.PL
