/- A part of the proof of FnQuadTree. There are no conditions. -/
import Derived.Test.YtlpbalebodlipaaKQXWLast
import Derived.Test.YtlpbalebodlipaaKQXWWords
namespace Go.Proofs.YtlpbalebodlipaaW.PrintLast
open Go.Proofs.YtlpbalebodlipaaW.PrintWords (ae)
def oa(md:Region.Mode)(o:Oper):List Nat:=(o.after.toList.filter (fun e=>Region.binds md e)).map (fun e=>e.on)
def wq(md:Region.Mode)(D:Array Oper)(i:Nat)(oi:Oper):List Nat:=(List.range D.size).filter fun j=>!(j==i)&&match D[j]? with
 |some oj=>!(oj.after.any (fun e=>Region.binds md e&&e.on==i)||oi.apart D oj)
 |none=>false
def bT(md:Region.Mode)(D:Array Oper):Bool×List (List Nat×List Nat):=(Region.noSelect D,(List.range D.size).map fun i=>match D[i]? with
 |some o=>(oa md o,wq md D i o)
 |none=>([],[]))
def lW(T:List (List Nat×List Nat))(l:List Bool)(i:Nat):Bool:=!l.getD i true&&match T[i]? with
 |some r=>r.1.all (fun j=>l.getD j false)
 |none=>false
def mz(T:List (List Nat×List Nat))(l:List Bool):List Nat:=(List.range T.length).filter (lW T l)
def pY(T:List (List Nat×List Nat))(l:List Bool)(i:Nat):Bool:=match T[i]? with
 |some r=>r.2.all (fun j=>l.getD j true)
 |none=>false
def tn(T:List (List Nat×List Nat))(l:List Bool):Bool:=(List.range T.length).all fun j=>!l.getD j false||match T[j]? with
 |some r=>r.1.all (fun k=>l.getD k false)
 |none=>true
def oZ(T:List (List Nat×List Nat))(i:Nat):Nat->Nat->Bool
 |0,_=>false
 |fuel+1,d=>match T[d]? with
  |some r=>r.1.any fun j=>j==i||oZ T i fuel j
  |none=>false
def lastT(T:List (List Nat×List Nat))(l:List Bool)(ds:List Nat)(i:Nat):Bool:=ds.all fun d=>l.getD d true||oZ T i T.length d
section
variable {md:Region.Mode} {D:Array Oper} {T:Bool×List (List Nat×List Nat)} {l l' li lj lk:Array Bool} {ds:List Nat} {i j k:Nat}
theorem gd(l:Array Bool)(j:Nat)(b:Bool):l.getD j b=l.toList.getD j b:=by simp[Array.getD_eq_getD_getElem?,List.getD_eq_getElem?_getD]
theorem BB(o:Oper)(p:Nat->Bool):o.after.all (fun e=>!Region.binds md e||p e.on)=(oa md o).all p:=by
 unfold oa;rw[<-Array.all_toList]
 induction o.after.toList with
 |nil=>rfl
 |cons e r ih=>
  rw[List.all_cons,ih,List.filter_cons];cases h:Region.binds md e<;>simp
theorem DU(o:Oper)(p:Nat->Bool):o.after.any (fun e=>Region.binds md e&&p e.on)=(oa md o).any p:=by
 unfold oa;rw[<-Array.any_toList]
 induction o.after.toList with
 |nil=>rfl
 |cons e r ih=>
  rw[List.any_cons,ih,List.filter_cons];cases h:Region.binds md e<;>simp
theorem rT:(bT md D).2.length=D.size:=by simp[bT]
theorem tB{o:Oper}(h:D[i]?=some o):(bT md D).2[i]?=some (oa md o,wq md D i o):=by
 have hi:=(Array.getElem?_eq_some_iff.1 h).1;unfold bT;rw[List.getElem?_map,List.getElem?_range hi,Option.map_some,h]
theorem te(h:D[i]?=none):(bT md D).2[i]?=none:=by
 have hi:D.size<=i:=Array.getElem?_eq_none_iff.1 h;exact List.getElem?_eq_none (by rw[rT];exact hi)
theorem HE:lW (bT md D).2 l.toList i=(!l.getD i true&&((D[i]?).map (·.after.all fun e=>!Region.binds md e||l.getD e.on false)).getD false):=by
 unfold lW;rw[gd];cases h:D[i]? with
 |none=>rw[te h];rfl
 |some o=>
  rw[tB h];simp only[Option.map_some,Option.getD_some];rw[<-BB];simp only[gd]
theorem ready_eq:Region.ready md D l=mz (bT md D).2 l.toList:=by
 unfold Region.ready mz;rw[rT];refine List.filter_congr (fun i _=>?_);rw[HE]
theorem free_eq:Region.free md D l i=pY (bT md D).2 l.toList i:=by
 unfold Region.free pY;cases h:D[i]? with
 |none=>rw[te h]
 |some oi=>
  rw[tB h];simp only[wq];rw[List.all_filter];congr 1;funext j;rw[gd];cases hj:D[j]? with
  |none=>cases(j==i)<;>cases(l.toList.getD j true)<;>simp
  |some oj=>
   cases(j==i)<;>cases(l.toList.getD j true)<;>cases(oj.after.any (fun e=>Region.binds md e&&e.on==i)||oi.apart D oj)<;>simp_all
theorem FS:Region.qp md D l=tn (bT md D).2 l.toList:=by
 unfold Region.qp tn;rw[rT];congr 1;funext j;rw[gd];cases h:D[j]? with
 |none=>rw[te h]
 |some o=>
  rw[tB h];simp only;rw[<-BB];simp only[gd]
theorem Ci:∀(fuel d:Nat),Region.jL md D i fuel d=oZ (bT md D).2 i fuel d
 |0,_=>rfl
 |fuel+1,d=>by
  unfold Region.jL oZ;cases h:D[d]? with
  |none=>rw[te h]
  |some o=>
   rw[tB h];simp only;rw[<-DU];congr 1;funext e;rw[Ci fuel]
theorem Em:Region.lastB md D l ds i=lastT (bT md D).2 l.toList ds i:=by
 unfold Region.lastB lastT;rw[rT];congr 1;funext d;rw[gd,Ci]
theorem Ad(h:lW T.2 l.toList i=true)(hT:bT md D=T):(Region.ready md D l).contains i=true:=by
 subst hT;rw[ready_eq];unfold mz;rw[List.contains_iff_mem,List.mem_filter,List.mem_range];refine⟨?_,h⟩;unfold lW at h;rw[Bool.and_eq_true]at h;cases hq:(bT md D).2[i]? with
 |none=>rw[hq]at h;simp at h
 |some r=>exact(List.getElem?_eq_some_iff.1 hq).1
theorem iT(h:(l.toList.set i true==l'.toList)=true):(l.setIfInBounds i true==l')=true:=by
 rw[beq_iff_eq]at h ⊢;apply Array.ext';rw[Array.toList_setIfInBounds];exact h
def xD(T:Bool×List (List Nat×List Nat))(l l':List Bool)(i:Nat):Bool:=T.1&&pY T.2 l i&&lW T.2 l i&&(l.set i true==l')
theorem dP(hT:bT md D=T)(h:xD T l.toList l'.toList i=true):nG md D l l' i=true:=by
 simp only[xD,Bool.and_eq_true]at h;obtain⟨⟨⟨h1,h2⟩,h3⟩,h4⟩:=h;have h5:=Ad h3 hT;have h6:=iT h4;subst hT;simp only[nG,Bool.and_eq_true];exact⟨⟨⟨h1,by rw[free_eq];exact h2⟩,h5⟩,h6⟩
def ul(T:Bool×List (List Nat×List Nat))(ds:List Nat)(l l':List Bool)(i:Nat):Bool:=T.1&&pY T.2 l i&&lW T.2 l i&&tn T.2 l&&lastT T.2 l ds i&&(l.set i true==l')
theorem Fg(hT:bT md D=T)(h:ul T ds l.toList l'.toList i=true):takeB md D ds l l' i=true:=by
 simp only[ul,Bool.and_eq_true]at h;obtain⟨⟨⟨⟨⟨h1,h2⟩,h3⟩,h4⟩,h5⟩,h6⟩:=h;have h7:=Ad h3 hT;have h8:=iT h6;subst hT;simp only[takeB,Bool.and_eq_true];exact⟨⟨⟨⟨⟨h1,by rw[free_eq];exact h2⟩,h7⟩,by rw[FS];exact h4⟩,by rw[Em];exact h5⟩,h8⟩
theorem fQ(hT:bT md D=T)(h:(mz T.2 l.toList==[i]&&l.toList.set i true==l'.toList)=true):jS md D l l' i=true:=by
 simp only[Bool.and_eq_true]at h;obtain⟨h1,h2⟩:=h;subst hT;simp only[jS,Bool.and_eq_true];exact⟨by rw[ready_eq];exact h1,iT h2⟩
theorem np(hT:bT md D=T)(h:(mz T.2 l.toList==[i,j]&&l.toList.set i true==li.toList&&l.toList.set j true==lj.toList)=true):(Region.ready md D l==[i,j]&&l.setIfInBounds i true==li&&l.setIfInBounds j true==lj)=true:=by
 simp only[Bool.and_eq_true]at h ⊢;obtain⟨⟨h1,h2⟩,h3⟩:=h;subst hT;exact⟨⟨by rw[ready_eq];exact h1,iT h2⟩,iT h3⟩
theorem xF(hT:bT md D=T)(h:(mz T.2 l.toList==[i,j,k]&&l.toList.set i true==li.toList&&l.toList.set j true==lj.toList&&l.toList.set k true==lk.toList)=true):
 (Region.ready md D l==[i,j,k]&&l.setIfInBounds i true==li&&l.setIfInBounds j true==lj&&l.setIfInBounds k true==lk)=true:=by
 simp only[Bool.and_eq_true]at h ⊢;obtain⟨⟨⟨h1,h2⟩,h3⟩,h4⟩:=h;subst hT;exact⟨⟨⟨by rw[ready_eq];exact h1,iT h2⟩,iT h3⟩,iT h4⟩
theorem Es(hT:bT md D=T)(h:(mz T.2 l.toList==[])=true):(Region.ready md D l==[])=true:=by
 subst hT;rw[ready_eq];exact h
def mX(B:List Nat)(d:Nat):List Nat->Nat
 |[]=>0
 |n::r=>(2^n|||(if n<d then B.getD n 0 else 0))|||mX B d r
def de(T:List (List Nat×List Nat))(B:List Nat):Bool:=(List.range T.length).all fun d=>match T[d]? with
 |some r=>(B.getD d 0|||mX B d r.1)==mX B d r.1
 |none=>false
theorem Bi{B:List Nat}{d i:Nat}:∀{ns:List Nat},(mX B d ns).testBit i=true->∃n∈ns,n=i\/(n<d/\(B.getD n 0).testBit i=true)
 |[],h=>by simp[mX]at h
 |n::r,h=>by
  unfold mX at h;rw[Nat.testBit_or,Nat.testBit_or,Bool.or_eq_true,Bool.or_eq_true]at h;rcases h with(h|h)|h
  · rw[Nat.testBit_two_pow]at h
    exact⟨n,List.mem_cons_self,.inl (by simpa using h)⟩
  · by_cases hn:n<d
    · rw[if_pos hn]at h
      exact⟨n,List.mem_cons_self,.inr ⟨hn,h⟩⟩
    · rw[if_neg hn]at h
      simp at h
  · obtain⟨m,hm,h2⟩:=Bi h
    exact⟨m,List.mem_cons_of_mem _ hm,h2⟩
theorem Aq{T:List (List Nat×List Nat)}{B:List Nat}(hB:de T B=true):∀(fuel d:Nat),d<fuel->d<T.length->(B.getD d 0).testBit i=true->oZ T i fuel d=true
 |0,d,h,_,_=>by omega
 |fuel+1,d,h,hd,hb=>by
  have h1:=List.all_eq_true.1 hB d (List.mem_range.2 hd);cases hr:T[d]? with
  |none=>rw[hr]at h1;simp at h1
  |some r=>
   rw[hr]at h1;simp only[beq_iff_eq]at h1;have h2:(mX B d r.1).testBit i=true:=by rw[<-h1,Nat.testBit_or,hb,Bool.true_or]
   obtain⟨n,hn,h3⟩:=Bi h2;unfold oZ;rw[hr];simp only;rw[List.any_eq_true];refine⟨n,hn,?_⟩;rcases h3 with rfl|⟨h4,h5⟩
   ·simp
   ·rw[Aq hB fuel n (by omega) (by omega) h5,Bool.or_true]
def xd(T:List (List Nat×List Nat))(B:List Nat)(l:List Bool)(ds:List Nat)(i:Nat):Bool:=ds.all fun d=>l.getD d true||(decide (d<T.length)&&(B.getD d 0).testBit i)
def AD(T:Bool×List (List Nat×List Nat))(B:List Nat)(ds:List Nat)(l l':List Bool)(i:Nat):Bool:=T.1&&pY T.2 l i&&lW T.2 l i&&tn T.2 l&&xd T.2 B l ds i&&(l.set i true==l')
theorem iw{B:List Nat}(hT:bT md D=T)(hB:de T.2 B=true)(h:AD T B ds l.toList l'.toList i=true):takeB md D ds l l' i=true:=by
 refine Fg hT ?_;simp only[AD,ul,Bool.and_eq_true]at h ⊢;obtain⟨⟨⟨⟨⟨h1,h2⟩,h3⟩,h4⟩,h5⟩,h6⟩:=h;refine⟨⟨⟨⟨⟨h1,h2⟩,h3⟩,h4⟩,?_⟩,h6⟩;unfold xd at h5;unfold lastT;rw[List.all_eq_true]at h5 ⊢;intro d hd;have h7:=h5 d hd;rw[Bool.or_eq_true,Bool.and_eq_true,decide_eq_true_eq]at h7;rcases h7 with h7|⟨h8,h9⟩
 ·rw[h7,Bool.true_or]
 ·rw[Aq hB _ d h8 h8 h9,Bool.or_true]
theorem cT{P:Program}{Q:Exit->Act->World->Prop}{S:World->Prop}{n:Nat}{a:Act}{w:World}{B:List Nat}(hT:bT md D=T)(hB:de T.2 B=true)(h:ae (bT md D=T)->ae (de T.2 B=true)->bG P md D Q S ds n l a w):bG P md D Q S ds n l a w:=h ⟨hT⟩ ⟨hB⟩
end
def ll:Code->Nat->Option (Array Oper)
 |.region id D _,k=>if id==k then some D else none
 |.seq a b,k=>match ll a k with
  |some o=>some o
  |none=>ll b k
 |.cond _ a b,k=>match ll a k with
  |some o=>some o
  |none=>ll b k
 |.block _ c,k=>ll c k
 |.loop c,k=>ll c k
 |.scope c,k=>ll c k
 |.rangeFunc _ _ a b,k=>match ll a k with
  |some o=>some o
  |none=>ll b k
 |_,_=>none
def opsOf(f:Func)(k:Nat):Array Oper:=((f.body.bind fun c=>ll c k)).getD #[]
end Go.Proofs.YtlpbalebodlipaaW.PrintLast
