/- For every list of bytes, the law FnTutteMap answers true: for the map and the dart that it draws, TutteMap of the program answers what the reference answers; of a map that it makes, the quadrangulation is the first map up to names, its edges are as many as the faces, its genus is the same. There are no conditions. -/
import Derived.Test.YtlpbalebodlipaaKFnTutteMapOwnx11
set_option linter.unusedVariables false
set_option linter.unusedSimpArgs false
namespace Go.Proofs.Ytlpbalebodlipaa.PL
open Go.RowKit Go.Proofs.YtlpbalebodlipaaW.PrintWords Go.Proofs.YtlpbalebodlipaaW.PrintLast Go.Proofs.YtlpbalebodlipaaW.PrintMore
def kF (s:ByteArray):Nat->Int->Option (Int×Int)
 |0,g=>some (g,0)
 |d+1,g=>if bt s ((s.size:Int)-(d+1:Nat))=40 then(kF s d (g+1)).map (fun p=>(p.1,p.2+1))else if bt s ((s.size:Int)-(d+1:Nat))=41 then(if g-1<0 then none else kF s d (g-1))else none
theorem M0 (s:ByteArray):∀(d:Nat) (g:Int) (p:Int×Int),0<=g->kF s d g=some p->0<=p.1/\0<=p.2/\p.2<=d/\p.1=g+2*p.2-d
 |0,g,p,hg,h=>by simp only[kF,Option.some.injEq]at h;subst h;simp;omega
 |d+1,g,p,hg,h=>by
  simp only[kF]at h
  split at h
  · cases e:kF s d (g+1)with
    |none=>rw[e]at h;cases h
    |some q=>
     rw[e]at h
     obtain rfl:=Option.some.inj h
     have:=M0 s d (g+1) q (by omega) e
     simp only
     omega
  · split at h
    · split at h
      ·cases h
      · have:=M0 s d (g-1) p (by omega) h
        omega
    ·cases h
theorem Wr (x3 x4:Int) (s:ByteArray) (l:List Int) (hl:l.length<=1048576):∀(d i:Nat),l.length-i=d->i<=l.length->
 ((∀j,i<=j->j<l.length-> -1<=rd l j/\rd l j<=1)->Ev (fun k=>dJ.l1 k x3 x4 i s l) (decide (x3=0/\(1<=x4/\x4<=3)/\(l.length:Int)=x4)))/\
 (¬(∀j,i<=j->j<l.length-> -1<=rd l j/\rd l j<=1)->Ev (fun k=>dJ.l1 k x3 x4 i s l) false)
 |0,i,hd,hi=>by
  refine⟨fun _=>Ev.s ?_,fun h=>absurd (fun j h1 h2=>by omega) h⟩
  simp only[dJ.l1,show ¬(i:Int)<(l.length:Int) by omega,if_false]
  refine Ev.const ?_
  unfold lD.f
  by_cases h1:x3=0
  · by_cases h2:x4>=1
    · by_cases h3:x4<=3
      ·by_cases h4:(l.length:Int)=x4<;>simp[h1,h2,h3,h4]<;>(try omega)
      ·simp[h1,h2,h3]
    ·simp[h1,h2]<;>(first|done|omega)
  ·simp[h1]
 |d+1,i,hd,hi=>by
  have ih:=Wr x3 x4 s l hl d (i+1) (by omega) (by omega)
  have hw:wrap64 ((i:Int)+1)=((i+1:Nat):Int):=by rw[w64 (by omega) (by omega)];omega
  by_cases hb: -1<=rd l i/\rd l i<=1
  · have hin:lD.f (rd l i) (-1) 1=some true:=by unfold lD.f;rw[if_pos hb.1,decide_eq_true hb.2]
    refine⟨fun h=>Ev.s ?_,fun h=>Ev.s ?_⟩
    · simp only[dJ.l1,show(i:Int)<(l.length:Int) by omega,show(0:Int)<=i by omega,if_true,hin,Option.bind_some,hw]
      exact ih.1 fun j h1 h2=>h j (by omega) h2
    · simp only[dJ.l1,show(i:Int)<(l.length:Int) by omega,show(0:Int)<=i by omega,if_true,hin,Option.bind_some,hw]
      refine ih.2 fun h'=>h fun j h1 h2=>?_
      by_cases e:j=i
      ·rw[e];exact hb
      ·exact h' j (by omega) h2
  · have hin:lD.f (rd l i) (-1) 1=some false:=by
     unfold lD.f
     by_cases h1:rd l i>= -1
     ·rw[if_pos h1,decide_eq_false (by omega)]
     ·rw[if_neg h1]
    refine⟨fun h=>absurd (h i (Nat.le_refl _) (by omega)) hb,fun h=>Ev.s ?_⟩
    simp only[dJ.l1,show(i:Int)<(l.length:Int) by omega,show(0:Int)<=i by omega,if_true,hin,Option.bind_some]
    exact Ev.const rfl
theorem NB (s:ByteArray) (hs:s.size<=1048576) (l:List Int):∀(d:Nat) (i g c:Int),0<=i->(s.size:Int)-i=d->0<=g->g<=i->0<=c->c<=i->
 (∀p,kF s d g=some p->∀r,Ev (fun k=>dJ.l1 k p.1 (c+p.2) 0 s l) r->Ev (fun k=>dJ.l0 k g c i s l) r)/\(kF s d g=none->Ev (fun k=>dJ.l0 k g c i s l) false)
 |0,i,g,c,hi,hd,hg,hgi,hc,hci=>by
  refine⟨fun p hp r h=>Ev.s ?_,fun h=>by simp[kF]at h⟩
  simp only[dJ.l0,show ¬i<(s.size:Int) by omega,if_false]
  simp only[kF,Option.some.injEq]at hp
  subst hp
  simpa using h
 |d+1,i,g,c,hi,hd,hg,hgi,hc,hci=>by
  have hj:(s.size:Int)-((d+1:Nat):Int)=i:=by omega
  have w1:wrap64 (g+1)=g+1:=w64 (by omega) (by omega)
  have w2:wrap64 (g-1)=g-1:=w64 (by omega) (by omega)
  have w3:wrap64 (c+1)=c+1:=w64 (by omega) (by omega)
  have w4:wrap64 (i+1)=i+1:=w64 (by omega) (by omega)
  simp only[kF,hj]
  by_cases b0:bt s i=40
  · simp only[b0,if_true]
    have ih:=NB s hs l d (i+1) (g+1) (c+1) (by omega) (by omega) (by omega) (by omega) (by omega) (by omega)
    refine⟨fun p hp r h=>Ev.s ?_,fun h=>Ev.s ?_⟩
    · simp only[dJ.l0,show i<(s.size:Int) by omega,hi,b0,if_true,w1,w3,w4,show ¬g+1<0 by omega,if_false]
      cases e:kF s d (g+1)with
      |none=>rw[e]at hp;cases hp
      |some q=>
       rw[e]at hp
       obtain rfl:=Option.some.inj hp
       refine ih.1 q e r ?_
       have:c+1+q.2=c+(q.2+1):=by omega
       rw[this]
       exact h
    · simp only[dJ.l0,show i<(s.size:Int) by omega,hi,b0,if_true,w1,w3,w4,show ¬g+1<0 by omega,if_false]
      exact ih.2 (by simpa using h)
  · by_cases b1:bt s i=41
    · simp only[b1,if_true,show ¬((41:Int)=40) by decide,if_false]
      by_cases hz:g-1<0
      · refine⟨fun p hp=>by simp[hz]at hp,fun _=>Ev.s ?_⟩
        simp only[dJ.l0,show i<(s.size:Int) by omega,hi,b1,if_true,w2,hz,show ¬((41:Int)=40) by decide,if_false]
        exact Ev.const rfl
      · have ih:=NB s hs l d (i+1) (g-1) c (by omega) (by omega) (by omega) (by omega) (by omega) (by omega)
        simp only[hz,if_false]
        refine⟨fun p hp r h=>Ev.s ?_,fun h=>Ev.s ?_⟩
        · simp only[dJ.l0,show i<(s.size:Int) by omega,hi,b1,if_true,w2,w4,hz,show ¬((41:Int)=40) by decide,if_false]
          exact ih.1 p hp r h
        · simp only[dJ.l0,show i<(s.size:Int) by omega,hi,b1,if_true,w2,w4,hz,show ¬((41:Int)=40) by decide,if_false]
          exact ih.2 h
    · simp only[b0,b1,if_false]
      refine⟨fun p hp=>by simp at hp,fun _=>Ev.s ?_⟩
      simp only[dJ.l0,show i<(s.size:Int) by omega,hi,b0,b1,if_true,if_false]
      exact Ev.const rfl
theorem Js (s:ByteArray) (hs:s.size<=1048576):∀(d i:Nat) (g:Int),(s.size:Int)-i=d->0<=g->g<=i->
 (∀p,kF s d g=some p->Ev (fun k=>j7.l1 k s i g) (p.1==0))/\(kF s d g=none->Ev (fun k=>j7.l1 k s i g) false)
 |0,i,g,hd,hg,hgi=>by
  refine⟨fun p hp=>Ev.s ?_,fun h=>by simp[kF]at h⟩
  simp only[j7.l1,show ¬i<s.size by omega,if_false]
  simp only[kF,Option.some.injEq]at hp
  subst hp
  exact Ev.const rfl
 |d+1,i,g,hd,hg,hgi=>by
  have hj:(s.size:Int)-((d+1:Nat):Int)=(i:Int):=by omega
  have w1:wrap64 (g+1)=g+1:=w64 (by omega) (by omega)
  have w2:wrap64 (g-1)=g-1:=w64 (by omega) (by omega)
  simp only[kF,hj]
  by_cases b0:bt s i=40
  · simp only[b0,if_true]
    have ih:=Js s hs d (i+1) (g+1) (by omega) (by omega) (by omega)
    refine⟨fun p hp=>Ev.s ?_,fun h=>Ev.s ?_⟩
    · simp only[j7.l1,show i<s.size by omega,b0,if_true,w1,show ¬g+1<0 by omega,if_false]
      cases e:kF s d (g+1)with
      |none=>rw[e]at hp;cases hp
      |some q=>
       rw[e]at hp
       obtain rfl:=Option.some.inj hp
       exact ih.1 q e
    · simp only[j7.l1,show i<s.size by omega,b0,if_true,w1,show ¬g+1<0 by omega,if_false]
      exact ih.2 (by simpa using h)
  · by_cases b1:bt s i=41
    · simp only[b1,if_true,show ¬((41:Int)=40) by decide,if_false]
      by_cases hz:g-1<0
      · refine⟨fun p hp=>by simp[hz]at hp,fun _=>Ev.s ?_⟩
        simp only[j7.l1,show i<s.size by omega,b1,if_true,w2,hz,show ¬((41:Int)=40) by decide,if_false]
        exact Ev.const rfl
      · have ih:=Js s hs d (i+1) (g-1) (by omega) (by omega) (by omega)
        simp only[hz,if_false]
        refine⟨fun p hp=>Ev.s ?_,fun h=>Ev.s ?_⟩
        · simp only[j7.l1,show i<s.size by omega,b1,if_true,w2,hz,show ¬((41:Int)=40) by decide,if_false]
          exact ih.1 p hp
        · simp only[j7.l1,show i<s.size by omega,b1,if_true,w2,hz,show ¬((41:Int)=40) by decide,if_false]
          exact ih.2 h
    · simp only[b0,b1,if_false]
      refine⟨fun p hp=>by simp at hp,fun _=>Ev.s ?_⟩
      simp only[j7.l1,show i<s.size by omega,b0,b1,if_true,if_false]
      exact Ev.const rfl
theorem Fv (s:ByteArray) (l:List Int) (hl:l.length<=3):∀(d i:Nat),l.length-i=d->i<=l.length->
 ((∀j,i<=j->j<l.length-> -1<=rd l j/\rd l j<=1)->∀r,Ev (fun k=>j7.l1 k s 0 0) r->Ev (fun k=>j7.l0 k s l i) r)/\
 (¬(∀j,i<=j->j<l.length-> -1<=rd l j/\rd l j<=1)->Ev (fun k=>j7.l0 k s l i) false)
 |0,i,hd,hi=>by
  refine⟨fun _ r h=>Ev.s ?_,fun h=>absurd (fun j h1 h2=>by omega) h⟩
  simp only[j7.l0,show ¬(i:Int)<(l.length:Int) by omega,if_false]
  exact h
 |d+1,i,hd,hi=>by
  have ih:=Fv s l hl d (i+1) (by omega) (by omega)
  have hw:wrap64 ((i:Int)+1)=((i+1:Nat):Int):=by rw[w64 (by omega) (by omega)];omega
  by_cases hb1:rd l i< -1
  · refine⟨fun h=>absurd (h i (Nat.le_refl _) (by omega)) (by omega),fun h=>Ev.s ?_⟩
    simp only[j7.l0,show(i:Int)<(l.length:Int) by omega,show(0:Int)<=i by omega,hb1,if_true]
    exact Ev.const rfl
  · by_cases hb2:rd l i>1
    · refine⟨fun h=>absurd (h i (Nat.le_refl _) (by omega)) (by omega),fun h=>Ev.s ?_⟩
      simp only[j7.l0,show(i:Int)<(l.length:Int) by omega,show(0:Int)<=i by omega,hb1,hb2,if_true,if_false]
      exact Ev.const rfl
    · refine⟨fun h r hr=>Ev.s ?_,fun h=>Ev.s ?_⟩
      · simp only[j7.l0,show(i:Int)<(l.length:Int) by omega,show(0:Int)<=i by omega,hb1,hb2,if_true,if_false,hw]
        exact ih.1 (fun j h1 h2=>h j (by omega) h2) r hr
      · simp only[j7.l0,show(i:Int)<(l.length:Int) by omega,show(0:Int)<=i by omega,hb1,hb2,if_true,if_false,hw]
        refine ih.2 fun h'=>h fun j h1 h2=>?_
        by_cases e:j=i
        ·rw[e];omega
        ·exact h' j (by omega) h2
def X6 (s:ByteArray) (l:List Int):Prop:=1<=l.length/\l.length<=3/\s.size=2*l.length/\(∀j:Nat,j<l.length-> -1<=rd l j/\rd l j<=1)/\∃c,kF s s.size 0=some (0,c)
theorem aia (s:ByteArray) (hs:s.size<=1048576) (l:List Int) (hl:l.length<=1048576):
 ∃b:Bool,Ev (fun k=>dJ.f k s l) b/\Ev (fun k=>j7.f k s l) b/\(b=true->X6 s l):=by
 have hsp:=NB s hs l s.size 0 0 0 (by omega) (by omega) (by omega) (by omega) (by omega) (by omega)
 have hst:=fun x3 x4=>Wr x3 x4 s l hl l.length 0 (by omega) (by omega)
 simp only[dJ.f,j7.f]
 cases hw:kF s s.size 0 with
 |none=>
  refine⟨false,hsp.2 hw,?_,fun h=>by cases h⟩
  by_cases h1:(l.length:Int)<1
  ·simp only[h1,if_true];exact Ev.const rfl
  · by_cases h3:(l.length:Int)>3
    ·simp only[h1,h3,if_true,if_false];exact Ev.const rfl
    · by_cases h2:(s.size:Int)=wrap64 (2*(l.length:Int))
      · simp only[h1,h3,if_false]
        simp only[if_pos h2]
        by_cases hb:∀j:Nat,0<=j->j<l.length-> -1<=rd l j/\rd l j<=1
        ·exact(Fv s l (by omega) l.length 0 (by omega) (by omega)).1 hb _ ((Js s hs s.size 0 0 (by omega) (by omega) (by omega)).2 hw)
        ·exact(Fv s l (by omega) l.length 0 (by omega) (by omega)).2 hb
      · simp only[h1,h3,h2,if_false]
        exact Ev.const rfl
 |some p=>
  have hr:=M0 s s.size 0 p (by omega) hw
  have hc0:(0:Int)+p.2=p.2:=by omega
  by_cases hb:∀j:Nat,0<=j->j<l.length-> -1<=rd l j/\rd l j<=1
  · refine⟨decide (p.1=0/\(1<=p.2/\p.2<=3)/\(l.length:Int)=p.2),hsp.1 p hw _ ?_,?_,fun h=>?_⟩
    ·rw[hc0];exact(hst p.1 p.2).1 hb
    · by_cases h1:(l.length:Int)<1
      · simp only[h1,if_true]
        exact Ev.const (by congr 1;symm;rw[decide_eq_false_iff_not];omega)
      · by_cases h3:(l.length:Int)>3
        · simp only[h1,h3,if_true,if_false]
          exact Ev.const (by congr 1;symm;rw[decide_eq_false_iff_not];omega)
        · have h2w:wrap64 (2*(l.length:Int))=2*(l.length:Int):=w64 (by omega) (by omega)
          by_cases h2:(s.size:Int)=2*(l.length:Int)
          · simp only[h1,h3,if_false,h2w]
            simp only[if_pos h2]
            have hi:=(Fv s l (by omega) l.length 0 (by omega) (by omega)).1 hb _ ((Js s hs s.size 0 0 (by omega) (by omega) (by omega)).1 p hw)
            have e:(p.1==0)=decide (p.1=0/\(1<=p.2/\p.2<=3)/\(l.length:Int)=p.2):=by
              rw[Bool.eq_iff_iff]
              simp only[beq_iff_eq,decide_eq_true_eq]
              omega
            rw[e]at hi
            exact hi
          · simp only[h1,h3,h2,if_false,h2w]
            exact Ev.const (by congr 1;symm;rw[decide_eq_false_iff_not];omega)
    · have:=of_decide_eq_true h
      refine⟨by omega,by omega,by omega,fun j hj=>hb j (by omega) hj,p.2,?_⟩
      rw[hw]
      congr 1
      exact Prod.ext this.1 rfl
  · refine⟨false,hsp.1 p hw _ ?_,?_,fun h=>by cases h⟩
    ·exact(hst p.1 _).2 hb
    · by_cases h1:(l.length:Int)<1
      ·simp only[h1,if_true];exact Ev.const rfl
      · by_cases h3:(l.length:Int)>3
        ·simp only[h1,h3,if_true,if_false];exact Ev.const rfl
        · by_cases h2:(s.size:Int)=wrap64 (2*(l.length:Int))
          · simp only[h1,h3,if_false]
            simp only[if_pos h2]
            exact(Fv s l (by omega) l.length 0 (by omega) (by omega)).2 hb
          · simp only[h1,h3,h2,if_false]
            exact Ev.const rfl
def AS:Nat->List (List Int)
 |0=>[[]]
 |n+1=>[-1,0,1].flatMap fun a=>(AS n).map fun l=>a::l
def Aj:Nat->List ByteArray
 |1=>[⟨#[40,41]⟩]
 |2=>[⟨#[40,40,41,41]⟩,⟨#[40,41,40,41]⟩]
 |3=>[⟨#[40,40,40,41,41,41]⟩,⟨#[40,40,41,40,41,41]⟩,⟨#[40,40,41,41,40,41]⟩,⟨#[40,41,40,40,41,41]⟩,⟨#[40,41,40,41,40,41]⟩]
 |_=>[]
def xc (P:ByteArray->List Int->Bool) (n:Nat):Bool:=(Aj n).all fun s=>(AS n).all fun l=>P s l
theorem VK:∀(l:List Int),(∀x∈l,-1<=x/\x<=1)->l∈AS l.length
 |[],_=>by simp[AS]
 |a::l,h=>by
  have ih:=VK l fun x hx=>h x (by simp[hx])
  have ha:=h a (by simp)
  simp only[List.length_cons,AS,List.mem_flatMap,List.mem_map]
  exact⟨a,by simp;omega,l,ih,rfl⟩
theorem NQ (s:ByteArray):∀(d:Nat) (g:Int) (p:Int×Int),kF s d g=some p->∀q:Int,(s.size:Int)-d<=q->q<s.size->bt s q=40\/bt s q=41
 |0,g,p,h,q,h1,h2=>by omega
 |d+1,g,p,h,q,h1,h2=>by
  simp only[kF]at h
  by_cases e:q=(s.size:Int)-((d+1:Nat):Int)
  · rw[e]
    by_cases b0:bt s ((s.size:Int)-((d+1:Nat):Int))=40
    ·exact .inl b0
    · by_cases b1:bt s ((s.size:Int)-((d+1:Nat):Int))=41
      ·exact .inr b1
      · rw[if_neg b0,if_neg b1]at h
        cases h
  · split at h
    · cases e2:kF s d (g+1)with
      |none=>rw[e2]at h;cases h
      |some q'=>exact NQ s d (g+1) q' e2 q (by omega) h2
    · split at h
      · split at h
        ·cases h
        ·exact NQ s d (g-1) p h q (by omega) h2
      ·cases h
theorem byte_of (b:UInt8) (h:((b.toNat:Int)=40)\/((b.toNat:Int)=41)):b=40\/b=41:=by
 rcases h with h|h
 ·left;apply UInt8.toNat_inj.1;simpa using (by omega:b.toNat=40)
 ·right;apply UInt8.toNat_inj.1;simpa using (by omega:b.toNat=41)
theorem afG (s:ByteArray) (n:Nat) (hn:s.size=n):∃l:List UInt8,l.length=n/\s=⟨l.toArray⟩:=by
 refine⟨s.data.toList,?_,?_⟩
 ·rw[Array.length_toList];exact hn
 ·apply ByteArray.ext;simp
theorem ag7 (l:List UInt8) (i:Nat) (h:i<l.length):bt ⟨l.toArray⟩ (i:Int)=(l[i].toNat:Int):=by
 have:=(yH ⟨l.toArray⟩ (i:Int) (by simpa [ByteArray.size]using h)).symm
 rw[this]
 rfl
theorem ahh (s:ByteArray) (n:Nat) (h1:1<=n) (h3:n<=3) (hs:s.size=2*n) (c:Int) (hw:kF s s.size 0=some (0,c)):s∈Aj n:=by
 have hb:=NQ s s.size 0 (0,c) hw
 have hw':(kF s s.size 0).map (fun p=>p.1)=some 0:=by rw[hw];rfl
 clear hw
 obtain⟨l,hl,rfl⟩:=afG s (2*n) hs
 have hbl:∀i (h:i<l.length),l[i]=40\/l[i]=41:=fun i h=>byte_of _ (by
  have:=hb (i:Int) (by omega) (by rw[hs];omega)
  rwa [ag7 l i h]at this)
 clear hb
 have hc:n=1\/n=2\/n=3:=by omega
 rcases hc with rfl|rfl|rfl
 · obtain⟨a,b,rfl⟩:∃a b,l=[a,b]:=by
    match l,hl with
    |[a,b],_=>exact⟨a,b,rfl⟩
   · skip
     have h0:a=40\/a=41:=hbl 0 (show 0<2 by decide);have h1':b=40\/b=41:=hbl 1 (show 1<2 by decide)
     rcases h0 with rfl|rfl<;>rcases h1' with rfl|rfl<;>first|(exact absurd hw' (by decide+kernel))|(simp[Aj];done)
 · obtain⟨a,b,c,d,rfl⟩:∃a b c d,l=[a,b,c,d]:=by
    match l,hl with
    |[a,b,c,d],_=>exact⟨a,b,c,d,rfl⟩
   · skip
     have g0:a=40\/a=41:=hbl 0 (show 0<4 by decide);have g1:b=40\/b=41:=hbl 1 (show 1<4 by decide);have g2:c=40\/c=41:=hbl 2 (show 2<4 by decide);have g3:d=40\/d=41:=hbl 3 (show 3<4 by decide)
     rcases g0 with rfl|rfl<;>rcases g1 with rfl|rfl<;>rcases g2 with rfl|rfl<;>rcases g3 with rfl|rfl<;>first|(exact absurd hw' (by decide+kernel))|(simp[Aj];done)
 · obtain⟨a,b,c,d,e,f,rfl⟩:∃a b c d e f,l=[a,b,c,d,e,f]:=by
    match l,hl with
    |[a,b,c,d,e,f],_=>exact⟨a,b,c,d,e,f,rfl⟩
   · skip
     have g0:a=40\/a=41:=hbl 0 (show 0<6 by decide);have g1:b=40\/b=41:=hbl 1 (show 1<6 by decide);have g2:c=40\/c=41:=hbl 2 (show 2<6 by decide);have g3:d=40\/d=41:=hbl 3 (show 3<6 by decide);have g4:e=40\/e=41:=hbl 4 (show 4<6 by decide);have g5:f=40\/f=41:=hbl 5 (show 5<6 by decide)
     rcases g0 with rfl|rfl<;>rcases g1 with rfl|rfl<;>rcases g2 with rfl|rfl<;>rcases g3 with rfl|rfl<;>rcases g4 with rfl|rfl<;>rcases g5 with rfl|rfl<;>first|(exact absurd hw' (by decide+kernel))|(simp[Aj];done)
theorem age (P:ByteArray->List Int->Bool) (h1:xc P 1=true) (h2:xc P 2=true) (h3:xc P 3=true) (s:ByteArray) (l:List Int) (h:X6 s l):P s l=true:=by
 obtain⟨a1,a3,hs,hst,c,hw⟩:=h
 have hm:=ahh s l.length a1 a3 hs c hw
 have hl:∀x∈l,-1<=x/\x<=1:=by
  intro x hx
  obtain⟨i,hi,rfl⟩:=List.mem_iff_getElem.1 hx
  have:=hst i hi
  rwa [kE l i hi]at this
 have hsm:=VK l hl
 have hn:xc P l.length=true:=by
  have hc:l.length=1\/l.length=2\/l.length=3:=by omega
  rcases hc with e|e|e<;>rw[e]<;>assumption
 unfold xc at hn
 rw[List.all_eq_true]at hn
 have:=hn s hm
 rw[List.all_eq_true]at this
 exact this l hsm
theorem Zf (a b:List Int) (ha:a.length<=1048576) (hb:b.length<=1048576):∃r:List Int×Bool,Ev (fun k=>vR.f k a b) r/\r.1.length<=12:=by
 obtain⟨x,x1,_,x3⟩:=I1 a ha
 obtain⟨y,y1,_,y3⟩:=I1 b hb
 by_cases h:x=true/\y=true/\a.length=b.length
 · obtain⟨rfl,rfl,hl⟩:=h
   have pa:=x3.1 rfl
   have pb:=y3.1 rfl
   have ra:=tO a pa
   have rb:=tO b pb
   rw[<-hl]at rb
   have hn:=pa.2.1
   refine⟨(bX (bX (fM b a.length a.length) a a.length) b a.length,true),?_,by rw[tz];exact hn⟩
   unfold vR.f
   refine Ev.bind (a:=true) ?_ ?_
   · unfold sy.f
     refine Ev.bind x1 ?_
     simp only[if_true]
     refine Ev.bind y1 ?_
     simp only[if_true,hl,beq_self_eq_true]
     exact Ev.const rfl
   · simp only[if_true]
     refine Ev.bind (NM a.length (by omega) b rb) ?_
     refine Ev.bind (Jb a.length (by omega) _ a (yE b a.length) ra) ?_
     refine Ev.bind (Jb a.length (by omega) _ b (qW a.length _ a (yE b a.length) ra) rb) ?_
     exact Ev.const rfl
 · refine⟨([],false),?_,by simp⟩
   unfold vR.f
   refine Ev.bind (a:=false) ?_ (by simp only[Bool.false_eq_true,if_false];exact Ev.const rfl)
   unfold sy.f
   refine Ev.bind x1 ?_
   cases x with
   |false=>simp only[Bool.false_eq_true,if_false];exact Ev.const rfl
   |true=>
    simp only[if_true]
    refine Ev.bind y1 ?_
    cases y with
    |false=>simp only[Bool.false_eq_true,if_false];exact Ev.const rfl
    |true=>
     simp only[if_true]
     have:((a.length:Int)==(b.length:Int))=false:=by
      rw[beq_eq_false_iff_ne]
      intro e
      exact h ⟨rfl,rfl,by omega⟩
     rw[this]
     exact Ev.const rfl
theorem afF (t f b:List Int) (ht:t.length<=1048576) (hf:f.length<=1048576) (hb:b.length<=1048576):∃r:List Int×List Int,Ev (fun k=>An.f k t f b) r/\r.1.length<=12/\r.2.length<=12:=by
 obtain⟨x,x1,x2⟩:=Zf t b ht hb
 obtain⟨y,y1,y2⟩:=Zf f b hf hb
 refine⟨(x.1,y.1),?_,x2,y2⟩
 unfold An.f
 exact Ev.bind x1 (Ev.bind y1 (Ev.const rfl))
def CW (s:ByteArray) (l:List Int):Bool:=
 match cW.f 3000 s l with
 |some (t,f,_,_)=>decide (t.length<=12/\f.length<=12)
 |none=>false
theorem aft:xc CW 1=true:=by decide+kernel
theorem ahO:xc CW 2=true:=by decide+kernel
set_option maxHeartbeats 40000000 in
theorem af8:∀s∈Aj 3,∀a∈([-1,0,1]:List Int),(AS 2).all (fun l=>CW s (a::l))=true:=by
 intro s hs a ha
 simp only[Aj,List.mem_cons,List.not_mem_nil,or_false]at hs ha
 rcases hs with rfl|rfl|rfl|rfl|rfl<;>rcases ha with rfl|rfl|rfl<;>decide+kernel
theorem agQ:xc CW 3=true:=by
 unfold xc
 rw[List.all_eq_true]
 intro s hs
 rw[List.all_eq_true]
 intro l hl
 rw[AS,List.mem_flatMap]at hl
 obtain⟨a,ha,hl⟩:=hl
 obtain⟨l1,hl1,rfl⟩:=List.mem_map.1 hl
 exact List.all_eq_true.1 (af8 s hs a ha) l1 hl1
theorem afs (s:ByteArray) (l:List Int) (hs:s.size<=10) (hl:l.length<=10):∃r:List Int×List Int×Int×Bool,Ev (fun k=>cW.f k s l) r/\r.1.length<=12/\r.2.1.length<=12:=by
 obtain⟨b,b1,b2,b3⟩:=aia s (by omega) l (by omega)
 cases b with
 |false=>
  refine⟨([],[],0,false),?_,by simp,by simp⟩
  unfold cW.f
  refine Ev.bind b1 ?_
  simp only[Bool.false_eq_true,if_false]
  exact Ev.const rfl
 |true=>
  have hck:=age CW aft ahO agQ s l (b3 rfl)
  unfold CW at hck
  split at hck
  · rename_i t f q b e
    have hck:=of_decide_eq_true hck
    exact⟨(t,f,q,b),Ev.of (fun k=>cW.mono _ _ k) e,hck.1,hck.2⟩
  ·cases hck
def afp (g:Nat->Option (List Int×List Int×Int)) (p:Int):Prop:=∃(t f:List Int) (p':Int),Ev g (t,f,p')/\t.length<=12/\f.length<=12/\0<=p'/\p'<=p+200
theorem V8 (l:List Int) (h:qh l) (p:Int) (hp:0<=p) (hp':p<=300):afp (fun k=>jP.j0 k l p) p:=by
 obtain⟨s,st,p1,e1,z1,z2,z3,z4⟩:=afz l h p hp (by omega) 3 (by omega) (by omega)
 obtain⟨⟨t,f,q,b⟩,e2,y1,y2⟩:=afs s st z1 z2
 cases b with
 |false=>
  refine⟨[1,0],[1,0],p1,Ev.s ?_,by simp,by simp,z3,by omega⟩
  simp only[jP.j0]
  refine Ev.bind e1 ?_
  refine Ev.bind e2 ?_
  simp only[Bool.false_eq_true,if_false]
  exact Ev.const rfl
 |true=>
  have y1:t.length<=12:=y1
  have y2:f.length<=12:=y2
  obtain⟨o,e3,o1,_⟩:=Oc l h t.length (by omega) p1 z3 (by omega)
  obtain⟨r,e4,r1,r2⟩:=afF t f o (by omega) (by omega) (by rw[o1.1];omega)
  refine⟨r.1,r.2,p1+(t.length:Int),Ev.s ?_,r1,r2,by omega,by omega⟩
  simp only[jP.j0]
  refine Ev.bind e1 ?_
  refine Ev.bind e2 ?_
  simp only[if_true]
  refine Ev.bind e3 ?_
  exact Ev.bind e4 (Ev.const rfl)
theorem ahe (l:List Int) (h:qh l):∃(t f:List Int) (p':Int),Ev (fun k=>jP.f k l 0) (t,f,p')/\t.length<=12/\f.length<=12/\0<=p'/\p'<=500:=by
 obtain⟨v,e,_,_⟩:=rP l h 0 (by omega) (by omega) 4 (by omega) (by omega)
 by_cases c0:v=0
 · obtain⟨t,f,p',e1,z1,z2,z3,z4⟩:=Ye l h (0+1) (by omega) (by omega) 4 (by omega) (by omega)
   refine⟨t,f,p',?_,z1,z2,z3,by omega⟩
   unfold jP.f
   refine Ev.bind e ?_
   simp only[c0,if_true]
   exact Ev.bind e1 (Ev.const rfl)
 · by_cases c1:v=1
   · obtain⟨t,f,p',e1,z1,z2,z3,z4⟩:=Ye l h (0+1) (by omega) (by omega) 3 (by omega) (by omega)
     obtain⟨T,F,b,e2,_,y1,y2⟩:=agj t f (by omega) (by omega)
     cases b with
     |true=>
      refine⟨T,F,p',?_,y1,y2,z3,by omega⟩
      unfold jP.f
      refine Ev.bind e ?_
      simp only[c1,show ¬(1:Int)=0 by decide,if_true,if_false]
      refine Ev.bind e1 ?_
      refine Ev.bind e2 ?_
      simp only[if_true]
      exact Ev.const rfl
     |false=>
      obtain⟨t',f',p'',e3,x1,x2,x3,x4⟩:=V8 l h p' z3 (by omega)
      refine⟨t',f',p'',?_,x1,x2,x3,by omega⟩
      unfold jP.f
      refine Ev.bind e ?_
      simp only[c1,show ¬(1:Int)=0 by decide,if_true,if_false]
      refine Ev.bind e1 ?_
      refine Ev.bind e2 ?_
      simp only[Bool.false_eq_true,if_false]
      exact e3
   · obtain⟨t',f',p'',e3,x1,x2,x3,x4⟩:=V8 l h (0+1) (by omega) (by omega)
     refine⟨t',f',p'',?_,x1,x2,x3,by omega⟩
     unfold jP.f
     refine Ev.bind e ?_
     simp only[c0,c1,if_false]
     exact e3
theorem af1 (l:List Int) (h:qh l) (p:Int) (hp:0<=p) (hp':p<=1000) (n:Nat) (hn:n<=12):∃(v p':Int),Ev (fun k=>pw.f k l p n) (v,p')/\0<=p'/\p'<=p+2:=by
 have yes:∀q:Int,0<=q->q<=1001->∃(v p':Int),Ev (fun k=>pw.j0 k n true l q) (v,p')/\0<=p'/\p'<=q+1:=fun q h0 h1=>by
  obtain⟨v,e,v0,v1⟩:=rP l h q h0 (by omega) 2 (by omega) (by omega)
  refine⟨rd [(-1),(n:Int)] v,q+1,Ev.s ?_,by omega,by omega⟩
  simp only[pw.j0,if_true,Option.bind_some]
  refine Ev.bind e ?_
  simp only[v0,show v<(([(-1),(n:Int)]:List Int).length:Int)from v1,if_true]
  exact Ev.const rfl
 by_cases c:(n:Int)=0
 · obtain⟨v,p',e,z1,z2⟩:=yes p hp (by omega)
   refine⟨v,p',?_,z1,by omega⟩
   unfold pw.f
   rw[c]at e ⊢
   simp only[if_true]
   exact e
 · obtain⟨w,ew,w0,w1⟩:=rP l h p hp (by omega) 20 (by omega) (by omega)
   by_cases z:w=0
   · obtain⟨v,p',e,z1,z2⟩:=yes (p+1) (by omega) (by omega)
     refine⟨v,p',?_,z1,by omega⟩
     unfold pw.f
     simp only[c,if_false]
     refine Ev.bind ew ?_
     simp only[z,beq_self_eq_true]
     exact e
   · obtain⟨v,e,v0,v1⟩:=rP l h (p+1) (by omega) (by omega) (n:Int) (by omega) (by omega)
     refine⟨v,p+1+1,?_,by omega,by omega⟩
     unfold pw.f
     simp only[c,if_false]
     refine Ev.bind ew ?_
     simp only[show(w==0)=false from beq_eq_false_iff_ne.2 z]
     refine Ev.s ?_
     simp only[pw.j0,Bool.false_eq_true,if_false]
     exact Ev.bind e (Ev.const rfl)
end Go.Proofs.Ytlpbalebodlipaa.PL
set_option linter.unusedVariables false
set_option linter.unusedSimpArgs false
namespace Go.Proofs.Ytlpbalebodlipaa.Pure
open Go.RowKit Go.Proofs.Ytlpbalebodlipaa.PL Go.Proofs.YtlpbalebodlipaaW.PrintWords Go.Proofs.YtlpbalebodlipaaW.PrintLast Go.Proofs.YtlpbalebodlipaaW.PrintMore
theorem FnTutteMap:gh.Pure:=by
 intro c _ _ hc
 by_cases hs:(c.length:Int)>1048576
 ·exact⟨0,by unfold gh.f;rw[if_pos hs]⟩
 refine Ev.rounds (r:=true) ?_
 unfold gh.f
 simp only[hs,if_false]
 obtain⟨c',ho,hb'⟩:=afO c hc
 obtain⟨t,f,p1,e1,l1,l2,xj,t8⟩:=ahe c' hb'
 obtain⟨a,p2,e2,_,_⟩:=af1 c' hb' p1 xj (by omega) t.length l1
 have hd:Ev (fun k=>qi.f k c) (t,f,a):=by
  unfold qi.f
  simp only[ho,Option.bind_some]
  refine Ev.bind e1 ?_
  exact Ev.bind e2 (Ev.const rfl)
 refine Ev.bind hd ?_
 obtain⟨⟨T,F,b⟩,r1,r2,r3,r4,r5⟩:=agY t f a (by omega) (by omega)
 have r3:T.length<=12:=r3
 have r4:F.length<=12:=r4
 refine Ev.bind r2 ?_
 refine Ev.bind r1 ?_
 simp only[bne_self_eq_false,Bool.false_eq_true,if_false]
 have hsm:=ahS T F (by omega) (by omega)
 refine Ev.bind hsm ?_
 simp only[if_true]
 refine Ev.s ?_
 cases b with
 |false=>
  simp only[gh.j0,Bool.not_false,if_true,beq_self_eq_true]
  exact Ev.bind hsm (Ev.const rfl)
 |true=>
  obtain⟨hm,h4,a',_,ha',g,hg,e3,hpar,l',q1,q2,q3⟩:=r5 rfl
  have H:=Ys hm
  generalize hn:t.length=n at*
  have q4:=q3
  simp only[Prod.mk.injEq]at q4
  have eT:=q4.1
  have eF:=q4.2.1
  obtain⟨N,hN,K,hmT,told,same,cnt,c1,c2,lF,hN6⟩:=agl t f n H hm h4 a' g hg hpar l' q2 T F eT eF
  have fc:=aho t f n H h4
  have lf:f.length=n:=H.2.2.2.2.1.1
  have g1:=VM T F N K hmT
  have g2:=VM t f n H hm
  have eg:=af3 ((cyS T N N).2.length:Int) ((F.length:Int)/2) ((cyS (bX F T N) N N).2.length:Int) ((cyS t n n).2.length:Int) ((f.length:Int)/2) ((cyS (bX f t n) n n).2.length:Int) (by omega) (by omega) (by omega) (by omega) (by omega) (by omega) (by omega)
  rw[eg]at g1
  have w1:wrap64 ((F.length:Int)/2)=((cyS (bX f t n) n n).2.length:Int):=by rw[w64 (by omega) (by omega)];omega
  simp only[gh.j0,Bool.not_true,Bool.false_eq_true,if_false]
  refine Ev.bind told ?_
  refine Ev.bind (VP t f n H hm) ?_
  refine Ev.bind (VP T F N K hmT) ?_
  simp only[if_true]
  refine Ev.bind same ?_
  have L3:∀x y z:Int,([x,y,z]:List Int).length=3:=fun _ _ _=>rfl
  have R1:∀x y z:Int,rd [x,y,z] 1=y:=fun _ _ _=>rfl
  have R2:∀x y z:Int,rd [x,y,z] 2=z:=fun _ _ _=>rfl
  simp only[if_true,L3,R1,R2,show(1:Int)<((3:Nat):Int) by decide,show(2:Int)<((3:Nat):Int) by decide,w1]
  refine Ev.bind g1 ?_
  refine Ev.bind g2 ?_
  simp only[beq_self_eq_true]
  exact Ev.const rfl
end Go.Proofs.Ytlpbalebodlipaa.Pure
namespace Go.Proofs.Ytlpbalebodlipaa.fnTutteMap
open Go.ChangeShapes Go.WideShapes Go.ChangeAt Go.RowKit
open Go.ChangeMaps (open_string shut_string)
set_option linter.unusedVariables false
theorem own:ownKnob Try.prog.godebug=none:=by kernel_rfl
theorem laidOut:laidOutB Try.prog=true:=by kernel_rfl
def agi (k:IntKind) (w:World) (a:Option Addr) (len cap:Nat) (zs:List Int):Prop:=
 (a=none/\len=0/\cap=0/\zs=[])\/
 ∃x,a=some x/\len<=cap/\cap<=maxLen/\zs.length=cap/\(∀i,i<zs.length->w.cell? (x.add i)=some (.int k (zs.getD i 0)))/\∀n∈zs,(Lit.int k n).wf=true
set_option maxRecDepth 100000 in
theorem lifted (os:Os) (started:os.Started) (H:Type) (enc:TypeId×Value->H):
 ReturnsInHanded {} Try.checked os 11 .any (Rows.fnTutteMapSpec.pre6 enc Try.prog Try.f11 Rows.fnTutteMapRow.domain false) (Rows.fnTutteMapSpec.post enc Try.prog Try.f11 false true false false):=by
 refine returnsInHanded_of_change_sized (C:=Try.checked) own started (by kernel_rfl) Try.func11
  (ChangeSpec.witness6 (enc:=enc) (C:=Try.checked) false ⟨#[],#[.slice none 0 0],[]⟩ 8 (by kernel_rfl) (by kernel_rfl) (by kernel_rfl) (by kernel_rfl)) ?_
 intro W base args ds gs before hval0 hW hcnd hsz0 _
 have hsz:(DataW.weightsEach Try.prog (Try.f11.params.toList++Rows.fnTutteMapSpec.plain.varTypes Try.prog) (ds++gs)).all (· <=reachBytes)=true:=hsz0
 have hval:∀(j:Nat) t v,Try.f11.params[j]?=some t->args[j]?=some v->Value.okWide Try.prog W .any base t v:=hval0
 have hW':=hW
 obtain⟨p,q,hA0,hV,rfl,hfz,hnd⟩:=hW
 have hA:DataW.TrodAll enc Try.prog W 0 (fun _=>true) true Try.f11.params.toList args.toList ds p:=hA0
 rw[Try.params11]at hA hval hsz
 obtain⟨v0,vs0,d0,ds0,p0,q0,hargs,rfl,rfl,h0,r0⟩:=trodAll_cons hA
 obtain⟨rfl,rfl,rfl⟩:=trodAll_nil r0
 obtain rfl:args= #[v0]:=by cases args;simp_all
 obtain⟨rfl,rfl⟩:=trodVars_none hV
 obtain⟨a0,zt,cap0,rfl⟩:=okWide_slice Try.underlying22 (hval 0 22 v0 rfl rfl)
 have k0:=h0
 have lt0:∀x∈p0,x.block<W.heap.size:=by obtain⟨m,hm⟩:=k0;exact DataW.trod_lt m _ _ _ hm
 obtain⟨z0,w0⟩:∃zs,agi .u8 W a0 zt cap0 zs:=by
  obtain⟨fuel,hf⟩:=h0
  rcases open_ints Try.underlying22 Try.underlying5 (by kernel_rfl) hf with⟨hcs,_⟩|⟨x,l,c,zs,hcs,_,hl,hm,hz,_,hcell,hwz⟩
  ·
   simp[Value.cells]at hcs
   obtain⟨rfl,rfl,rfl⟩:=hcs
   exact⟨[],.inl ⟨rfl,rfl,rfl,rfl⟩⟩
  ·
   simp[Value.cells]at hcs
   obtain⟨rfl,rfl,rfl⟩:=hcs
   exact⟨zs,.inr ⟨_,rfl,hl,hm,by simpa using hz,hcell,hwz⟩⟩
 have y0:zt*1<=140737488351232:=Go.Proofs.YtlpbalebodlipaaW.PrintWords.afk hsz (j:=0) (t:=22) rfl rfl Try.underlying22 Try.underlying5 (by kernel_rfl) (by kernel_rfl) h0
 clear hA0 hval0 hsz0 hsz
 refine(PL.gh.walk Pure.FnTutteMap a0 zt cap0 z0 W w0 y0).mono fun e W' ⟨he,bel⟩=>?_
 subst he
 exact⟨_,rfl,_,_,_,[],_,[],hW',trodAll_mk1 (shut_bool Try.underlying4 _),(trodAll_cons_mk (Below.trod laidOut (by kernel_rfl) (of_decide_eq_true (by kernel_rfl)) k0 bel lt0) trodAll_mk0),rfl,bel.frame _,fun h=>by cases h⟩
theorem over:Rows.fnTutteMapRow.holds Try.pinned (OpenSpec.ofChange Rows.fnTutteMapSpec):=
 OpenClaim.holds_of_wide 11 Try.f11 rfl rfl rfl rfl rfl rfl rfl ⟨rfl,rfl,rfl,rfl,rfl⟩ rfl rfl rfl rfl rfl (by kernel_rfl) Try.func11 (by kernel_rfl)
  (of_decide_eq_true (by kernel_rfl)) (by unfold Func.isWrapper;first|(rw[if_pos (by decide+kernel)];kernel_rfl)|(rw[if_neg (by decide+kernel)];exact⟨rfl,rfl⟩))
  (fun os started H enc _=>lifted os started H enc)
theorem proved:Rows.FnTutteMapSaid:=over
#print axioms proved
end Go.Proofs.Ytlpbalebodlipaa.fnTutteMap
namespace Go.Proofs.Ytlpbalebodlipaa
theorem fnTutteMap_holds:Rows.FnTutteMapSaid:=fnTutteMap.proved
end Go.Proofs.Ytlpbalebodlipaa
