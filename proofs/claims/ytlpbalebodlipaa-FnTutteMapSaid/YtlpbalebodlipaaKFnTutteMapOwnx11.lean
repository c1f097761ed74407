/- A part of the proof of FnTutteMap. There are no conditions. -/
import Derived.Test.YtlpbalebodlipaaKFnTutteMapOwnx10
set_option linter.unusedVariables false
set_option linter.unusedSimpArgs false
namespace Go.Proofs.Ytlpbalebodlipaa.PL
open Go.RowKit Go.Proofs.YtlpbalebodlipaaW.PrintWords Go.Proofs.YtlpbalebodlipaaW.PrintLast Go.Proofs.YtlpbalebodlipaaW.PrintMore
theorem Df (s:List Bool) (i j:Nat) (b:Bool) (hi:i<s.length):(s.set i b).getD j false=if i=j then b else s.getD j false:=by
 rw[List.getD_eq_getElem?_getD,List.getElem?_set]
 by_cases e:i=j
 · subst e
   simp[hi]
 ·simp[e,List.getD_eq_getElem?_getD]
theorem Na (p:List Int) (n:Nat) (hp:inR n p) (a0:Nat) (ha0:a0<n) (s0:Nat->Prop):∀(m:Nat) (s:List Bool) (c:List Int) (a:Nat),s.length=n->a<n->fresh s<m->
 (∀x,x<n->s.getD x false=true->s.getD (rd p x).toNat false=true\/(rd p x).toNat=a)->Reach [p] n a0 a->(∀x,x<n->s.getD x false=true->s0 x\/Reach [p] n a0 x)->(∀x,s0 x->s.getD x false=true)->(s.getD a0 false=true\/a=a0)->(∀x∈c,0<=x/\x<n/\Reach [p] n a0 x.toNat)->(a0≠a->(a0:Int)∈c)->(∀x,x<n->s.getD x false=true->s0 x\/(x:Int)∈c)->
 (∀x,x<n->(cw p m s c a).1.getD x false=true->(cw p m s c a).1.getD (rd p x).toNat false=true)/\(∀x,x<n->(cw p m s c a).1.getD x false=true->s0 x\/Reach [p] n a0 x)/\(∀x,s0 x->(cw p m s c a).1.getD x false=true)/\(cw p m s c a).1.getD a0 false=true/\(∀x∈(cw p m s c a).2,0<=x/\x<n/\Reach [p] n a0 x.toNat)/\(∀x,x<n->(cw p m s c a).1.getD x false=true->s0 x\/(x:Int)∈(cw p m s c a).2)
 |0,s,c,a,hs,ha,hm,h1,h2,h3,h4,h5,h6,h7,h8=>absurd hm (Nat.not_lt_zero _)
 |m+1,s,c,a,hs,ha,hm,h1,h2,h3,h4,h5,h6,h7,h8=>by
  simp only[cw]
  rw[sC s a (by omega),Int.toNat_natCast]
  by_cases e:s.getD a false=true
  · rw[if_pos e]
    refine⟨fun x hx hsx=>(h1 x hx hsx).elim id (fun z=>by rw[z];exact e),h3,h4,h5.elim id (fun z=>by rw[<-z];exact e),h6,h8⟩
  · rw[if_neg e]
    have pr:=hp.2 a ha
    have e0:s.getD a false=false:=by simpa using e
    have fr:=Ax s a (by omega) e0
    have back:(((rd p a).toNat:Nat):Int)=rd p a:=by omega
    have st:=Reach.step (ps:=[p]) (n:=n) (p:=p) (by simp) ha
    have ih:=Na p n hp a0 ha0 s0 m (s.set a true) (c++[(a:Int)]) (rd p a).toNat (by simpa using hs) (by omega) (by omega)
     (fun x hx hsx=>by
       rw[Df _ _ _ _ (by omega)]at hsx ⊢
       by_cases z:a=x
       ·subst z;exact .inr rfl
       · rw[if_neg z]at hsx
         by_cases y:a=(rd p x).toNat
         ·rw[if_pos y];exact .inl rfl
         · rw[if_neg y]
           exact .inl ((h1 x hx hsx).elim id (fun q=>absurd q.symm y)))
     (h2.trans st)
     (fun x hx hsx=>by
       rw[Df _ _ _ _ (by omega)]at hsx
       by_cases z:a=x
       ·subst z;exact .inr h2
       · rw[if_neg z]at hsx
         exact h3 x hx hsx)
     (fun x hx=>by
       rw[Df _ _ _ _ (by omega)]
       split
       ·rfl
       ·exact h4 x hx)
     (.inl (by
       rw[Df _ _ _ _ (by omega)]
       by_cases z:a=a0
       ·rw[if_pos z]
       · rw[if_neg z]
         exact h5.elim id (fun q=>absurd q z)))
     (fun x hx=>by
       rw[List.mem_append,List.mem_singleton]at hx
       rcases hx with hx|rfl
       ·exact h6 x hx
       ·exact⟨by omega,by omega,by rw[Int.toNat_natCast];exact h2⟩)
     (fun _=>by
       rw[List.mem_append,List.mem_singleton]
       by_cases z:a0=a
       ·right;rw[z]
       ·exact .inl (h7 z))
     (fun x hx hsx=>by
       rw[List.mem_append,List.mem_singleton]
       rw[Df _ _ _ _ (by omega)]at hsx
       by_cases z:a=x
       ·subst z;exact .inr (.inr rfl)
       · rw[if_neg z]at hsx
         exact(h8 x hx hsx).imp id .inl)
    rw[back]at ih
    exact ih
theorem yT (p:List Int) (n:Nat) (hp:inR n p) (hi:fK n p):∀i,i<=n->∀x,x<n->((cyS p n i).1.getD x false=true↔∃j,j<i/\Reach [p] n j x)
 |0,_,x,hx=>by
  constructor
  · intro h
    simp[cyS,List.getD_eq_getElem?_getD,List.getElem?_replicate,hx]at h
  ·rintro⟨j,hj,_⟩;omega
 |i+1,hi',x,hx=>by
  have ih:=yT p n hp hi i (by omega)
  have l1:=vH p n i
  simp only[cyS]
  by_cases e:(cyS p n i).1.getD i false=true
  · rw[Nl p (n+1) _ _ _ (by rw[sC _ _ (by omega),Int.toNat_natCast];exact e)]
    rw[ih x hx]
    obtain⟨q,q1,q2⟩:=(ih i (by omega)).1 e
    constructor
    ·rintro⟨j,hj,h⟩;exact⟨j,by omega,h⟩
    · rintro⟨j,hj,h⟩
      by_cases z:j=i
      ·subst z;exact⟨q,q1,q2.trans h⟩
      ·exact⟨j,by omega,h⟩
  · obtain⟨w1,w2,w3,w4,w5,w6⟩:=Na p n hp i (by omega) (fun x=>x<n/\(cyS p n i).1.getD x false=true) (n+1) (cyS p n i).1 [] i l1 (by omega) (by have:=C2 (cyS p n i).1;omega)
     (fun y hy hsy=>.inl (by
       have pr:=hp.2 y hy
       obtain⟨j,hj,h⟩:=(ih y hy).1 hsy
       exact(ih _ (by omega)).2 ⟨j,hj,h.trans (Reach.step (by simp) hy)⟩))
     (Reach.refl _ _ _) (fun y hy hsy=>.inl ⟨hy,hsy⟩) (fun y hy=>hy.2) (.inr rfl) (by simp) (fun z=>absurd rfl z) (fun y hy hsy=>.inl ⟨hy,hsy⟩)
    constructor
    · intro h
      rcases w2 x hx h with⟨_,h⟩|h
      · obtain⟨j,hj,h⟩:=(ih x hx).1 h
        exact⟨j,by omega,h⟩
      ·exact⟨i,by omega,h⟩
    · rintro⟨j,hj,h⟩
      by_cases z:j=i
      · subst z
        have hc:=vE p n hp hi (fun y=>(cw p (n+1) (cyS p n j).1 [] j).1.getD y false=true) w1
        exact(h _ hc).1 w4
      ·exact w3 x ⟨hx,(ih x hx).2 ⟨j,by omega,h⟩⟩
theorem Cnt.none {P:Nat->Prop} {n:Nat} (h:∀x,x<n->¬P x):Cnt n P 0:=⟨[],List.nodup_nil,fun x=>⟨fun z=>by simp at z,fun z=>absurd z.2 (h x z.1)⟩,rfl⟩
theorem IY (p:List Int) (n:Nat) (hp:inR n p) (hi:fK n p):∀i,i<=n->∃reps:List Nat,reps.length=(cyS p n i).2.length/\reps.Nodup/\(∀j,j∈reps↔j<i/\lst (Reach [p] n) j)/\∀(q:Nat) (h:q<reps.length) (x:Nat),x<n->((x:Int)∈d7 (cyS p n i).2 q↔Reach [p] n reps[q] x)
 |0,_=>⟨[],by simp[cyS],List.nodup_nil,by simp,fun q h=>by simp at h⟩
 |i+1,hi'=>by
  obtain⟨reps,r1,r2,r3,r4⟩:=IY p n hp hi i (by omega)
  have seen:=yT p n hp hi i (by omega) i (by omega)
  have l1:=vH p n i
  simp only[cyS]
  by_cases e:(cyS p n i).1.getD i false=true
  · rw[Nl p (n+1) _ _ _ (by rw[sC _ _ (by omega),Int.toNat_natCast];exact e)]
    rw[if_pos rfl]
    obtain⟨j,hj,h⟩:=seen.1 e
    refine⟨reps,r1,r2,fun q=>?_,r4⟩
    rw[r3]
    constructor
    ·rintro⟨a,b⟩;exact⟨by omega,b⟩
    · rintro⟨a,b⟩
      by_cases z:q=i
      ·subst z;exact absurd h (b j hj)
      ·exact⟨by omega,b⟩
  · have e':¬gH false (cyS p n i).1 (i:Int)=true:=by rw[sC _ _ (by omega),Int.toNat_natCast];exact e
    have hl:lst (Reach [p] n) i:=fun j hj h=>e (seen.2 ⟨j,hj,h⟩)
    obtain⟨w1,w2,w3,w4,w5,w6⟩:=Na p n hp i (by omega) (fun x=>x<n/\(cyS p n i).1.getD x false=true) (n+1) (cyS p n i).1 [] i l1 (by omega) (by have:=C2 (cyS p n i).1;omega)
     (fun y hy hsy=>.inl (by
       have pr:=hp.2 y hy
       obtain⟨j,hj,h⟩:=(yT p n hp hi i (by omega) y hy).1 hsy
       exact(yT p n hp hi i (by omega) _ (by omega)).2 ⟨j,hj,h.trans (Reach.step (by simp) hy)⟩))
     (Reach.refl _ _ _) (fun y hy hsy=>.inl ⟨hy,hsy⟩) (fun y hy=>hy.2) (.inr rfl) (by simp) (fun z=>absurd rfl z) (fun y hy hsy=>.inl ⟨hy,hsy⟩)
    have hc:=vE p n hp hi (fun y=>(cw p (n+1) (cyS p n i).1 [] i).1.getD y false=true) w1
    rw[if_neg (MW p n _ i e')]
    refine⟨reps++[i],by rw[List.length_append,List.length_append,r1];rfl,List.nodup_append.2 ⟨r2,by simp,fun a ha b hb z=>?_⟩,fun q=>?_,fun q hq x hx=>?_⟩
    · have:=((r3 a).1 ha).1
      rw[List.mem_singleton]at hb
      omega
    · rw[List.mem_append,List.mem_singleton,r3]
      constructor
      · rintro(⟨a,b⟩|rfl)
        ·exact⟨by omega,b⟩
        ·exact⟨by omega,hl⟩
      · rintro⟨a,b⟩
        by_cases z:q=i
        ·exact .inr z
        ·exact .inl ⟨by omega,b⟩
    · by_cases hq':q<reps.length
      · rw[Dk _ q (by simp;omega),List.getElem_append_left (by omega),List.getElem_append_left hq',<-Dk _ q (by omega)]
        exact r4 q hq' x hx
      · have hq2:q=reps.length:=by simp at hq;omega
        subst hq2
        rw[Dk _ _ (by simp;omega),List.getElem_append_right (by omega),List.getElem_append_right (Nat.le_refl _)]
        simp only[r1,Nat.sub_self,List.getElem_cons_zero]
        constructor
        · intro hm
          have:=(w5 x hm).2.2
          rwa [Int.toNat_natCast]at this
        · intro h
          have z:=(h _ hc).1 w4
          rcases w6 x hx z with⟨_,z⟩|z
          · obtain⟨j,hj,hr⟩:=(yT p n hp hi i (by omega) x hx).1 z
            exact absurd (hr.trans h.symm) (hl j hj)
          ·exact z
theorem Fc (p:List Int) (n:Nat) (hp:inR n p) (hi:fK n p):Cl n (Reach [p] n) (cyS p n n).2.length:=by
 obtain⟨reps,r1,r2,r3,_⟩:=IY p n hp hi n (Nat.le_refl _)
 exact⟨reps,r2,r3,r1⟩
def sm:List Int->Int
 |[]=>0
 |x::l=>x+sm l
theorem W0:∀(a b:List Int),sm (a++b)=sm a+sm b
 |[],b=>by simp[sm]
 |x::a,b=>by simp only[List.cons_append,sm,W0 a b];omega
theorem XT (p:List Int) (n:Nat) (hp:inR n p):∀(f:Nat) (s:List Bool) (c:List Int) (a:Int),s.length=n->0<=a->a<n->(cw p f s c a).2.length+fresh (cw p f s c a).1=c.length+fresh s
 |0,s,c,a,hs,h0,h1=>rfl
 |f+1,s,c,a,hs,h0,h1=>by
  simp only[cw]
  by_cases e:gH false s a=true
  ·simp only[e,if_true]
  · simp only[e,Bool.false_eq_true,if_false]
    have h3:s.getD a.toNat false=false:=by rw[<-sC s a h0];simpa using e
    have h4:=Ax s a.toNat (by omega) h3
    have h5:=hp.2 a.toNat (by omega)
    rw[show((a.toNat:Nat):Int)=a by omega]at h5
    have ih:=XT p n hp f (s.set a.toNat true) (c++[a]) (rd p a) (by simpa using hs) h5.1 h5.2
    rw[List.length_append,List.length_singleton]at ih
    omega
theorem WI (p:List Int) (n:Nat) (hp:inR n p):∀i,i<=n->sm (k6 (cyS p n i).2)+(fresh (cyS p n i).1:Int)=n
 |0,_=>by
  have:(List.replicate n false).countP (fun b=>!b)=n:=by rw[List.countP_replicate];simp
  simp[cyS,k6,sm,fresh,this]
 |i+1,hi=>by
  have ih:=WI p n hp i (by omega)
  have hb:=XT p n hp (n+1) (cyS p n i).1 [] i (vH p n i) (by omega) (by omega)
  rw[List.length_nil,Nat.zero_add]at hb
  simp only[cyS]
  by_cases e:(cw p (n+1) (cyS p n i).1 [] (i:Int)).2=[]
  · rw[if_pos e]
    rw[e,List.length_nil]at hb
    omega
  · rw[if_neg e]
    unfold k6 at ih ⊢
    rw[List.map_append,W0]
    simp only[List.map_cons,List.map_nil,sm]
    omega
theorem agJ (p:List Int) (n:Nat) (hp:inR n p) (hi:fK n p):sm (k6 (cyS p n n).2)=n:=by
 have h:=WI p n hp n (Nat.le_refl _)
 have hl:=vH p n n
 have hf:fresh (cyS p n n).1=0:=by
  unfold fresh
  rw[List.countP_eq_zero]
  intro b hb
  obtain⟨i,hi',rfl⟩:=List.mem_iff_getElem.1 hb
  have:=(yT p n hp hi n (Nat.le_refl _) i (by omega)).2 ⟨i,by omega,Reach.refl _ _ _⟩
  rw[List.getD_eq_getElem?_getD,List.getElem?_eq_getElem hi',Option.getD_some]at this
  rw[this]
  decide
 omega
theorem ZA:∀(C:List (List Int)),(∀l∈C,4<=l.length)->4*(C.length:Int)<=sm (k6 C)/\(sm (k6 C)<=4*(C.length:Int)->∀l∈C,l.length=4)
 |[],_=>⟨by simp[k6,sm],fun _ l hl=>by simp at hl⟩
 |x::C,h=>by
  obtain⟨a,b⟩:=ZA C fun l hl=>h l (by simp[hl])
  have hx:=h x (by simp)
  have e:sm (k6 (x::C))=(x.length:Int)+sm (k6 C):=rfl
  rw[e]
  simp only[List.length_cons]
  refine⟨by omega,fun hs l hl=>?_⟩
  rcases List.mem_cons.1 hl with rfl|hl
  ·omega
  ·exact b (by omega) l hl
theorem Ws (g:Nat->List Nat) (hg:∀r,(g r).length=4):∀L:List Nat,(L.flatMap g).length=4*L.length
 |[]=>rfl
 |r::L=>by
  rw[List.flatMap_cons,List.length_append,Ws g hg L,hg]
  simp only[List.length_cons]
  omega
theorem agM (p:List Int) (n:Nat) (hp:inR n p) (hi:fK n p) (h4:∀x:Nat,x<n->rd p (rd p (rd p (rd p (x:Int))))=x) (h2:∀x:Nat,x<n->rd p (rd p (x:Int))≠x):
 (∀l∈(cyS p n n).2,l.length=4)/\4*(cyS p n n).2.length=n:=by
 obtain⟨reps,r1,r2,r3,r4⟩:=IY p n hp hi n (Nat.le_refl _)
 have pn:∀x:Nat,x<n->(rd p (x:Int)).toNat<n/\(((rd p (x:Int)).toNat:Nat):Int)=rd p (x:Int):=fun x hx=>by
  have:=hp.2 x hx
  omega
 have H4:∀x:Nat,x<n->(rd p (((rd p (((rd p (((rd p (x:Int)).toNat:Nat):Int)).toNat:Nat):Int)).toNat:Nat):Int)).toNat=x:=fun x hx=>by
  obtain⟨a1,a2⟩:=pn x hx
  obtain⟨b1,b2⟩:=pn _ a1
  obtain⟨c1,c2⟩:=pn _ b1
  rw[a2]at b1 b2 c1 c2 ⊢
  rw[b2]at c1 c2 ⊢
  rw[c2,h4 x hx,Int.toNat_natCast]
 have H2:∀x:Nat,x<n->(rd p (((rd p (x:Int)).toNat:Nat):Int)).toNat≠x:=fun x hx e=>by
  obtain⟨a1,a2⟩:=pn x hx
  obtain⟨b1,b2⟩:=pn _ a1
  rw[a2]at b2 e
  exact h2 x hx (by omega)
 generalize hP:(fun x:Nat=>(rd p (x:Int)).toNat)=P at*
 have eP:∀x:Nat,(rd p (x:Int)).toNat=P x:=fun x=>by rw[<-hP]
 simp only[eP]at pn H4 H2
 have st:∀x:Nat,x<n->Reach [p] n x (P x):=fun x hx=>by
  have:=Reach.step (ps:=[p]) (n:=n) (p:=p) (by simp) hx
  rwa [eP]at this
 have four:∀l∈(cyS p n n).2,4<=l.length:=by
  intro l hl
  obtain⟨q,hq,rfl⟩:=List.mem_iff_getElem.1 hl
  have hq':q<reps.length:=by omega
  have rlt:=((r3 reps[q]).1 (List.getElem_mem hq')).1
  have el:d7 (cyS p n n).2 (q:Int)=(cyS p n n).2[q]:=by
   unfold d7
   rw[Int.toNat_natCast]
   simp[List.getD,hq]
  have mem:∀x:Nat,x<n->Reach [p] n reps[q] x->x∈((cyS p n n).2[q]).map Int.toNat:=fun x hx hr=>by
   have:=(r4 q hq' x hx).2 hr
   rw[el]at this
   exact List.mem_map.2 ⟨_,this,Int.toNat_natCast x⟩
  generalize reps[q]=r at*
  have a1:=(pn r rlt).1
  have b1:=(pn _ a1).1
  have c1:=(pn _ b1).1
  have s1:=st r rlt
  have s2:=s1.trans (st _ a1)
  have s3:=s2.trans (st _ b1)
  have ne1:P r≠r:=fun e=>H2 r rlt (by rw[e,e])
  have ne2:=H2 r rlt
  have ne3:P (P (P r))≠r:=fun e=>H2 r rlt (by
   have:=H4 r rlt
   rw[e]at this
   rw[this,this])
  have ne4:P (P r)≠P r:=fun e=>H2 _ a1 (by rw[e,e])
  have ne5:=H2 _ a1
  have ne6:P (P (P r))≠P (P r):=fun e=>H2 _ b1 (by rw[e,e])
  have nd:([r,P r,P (P r),P (P (P r))]:List Nat).Nodup:=by
   simp only[List.nodup_cons,List.mem_cons,List.not_mem_nil,or_false,not_or,not_false_eq_true,List.nodup_nil,and_true]
   exact⟨⟨fun e=>ne1 e.symm,fun e=>ne2 e.symm,fun e=>ne3 e.symm⟩,⟨fun e=>ne4 e.symm,fun e=>ne5 e.symm⟩,fun e=>ne6 e.symm⟩
  have:=vF [r,P r,P (P r),P (P (P r))] (((cyS p n n).2[q]).map Int.toNat) nd (fun x hx=>by
   simp only[List.mem_cons,List.not_mem_nil,or_false]at hx
   rcases hx with rfl|rfl|rfl|rfl
   ·exact mem _ rlt (Reach.refl _ _ _)
   ·exact mem _ a1 s1
   ·exact mem _ b1 s2
   ·exact mem _ c1 s3)
  simpa using this
 have many:n<=4*(cyS p n n).2.length:=by
  have:=vF (List.range n) (reps.flatMap fun r=>[r,P r,P (P r),P (P (P r))]) List.nodup_range (fun x hx=>by
   have hx:=List.mem_range.1 hx
   obtain⟨y,y1,y2,y3⟩:=Jo (Reach [p] n) (fun x=>Reach.refl _ _ x) (fun x y h=>h.symm) (fun x y z h h'=>h.trans h') x
   have hy:y<n:=by omega
   refine List.mem_flatMap.2 ⟨y,(r3 y).2 ⟨hy,y2⟩,?_⟩
   have cl:=vE p n hp hi (fun z=>z=y\/z=P y\/z=P (P y)\/z=P (P (P y))) (fun k hk hs=>by
    rw[eP]
    rcases hs with rfl|rfl|rfl|rfl
    ·exact .inr (.inl rfl)
    ·exact .inr (.inr (.inl rfl))
    ·exact .inr (.inr (.inr rfl))
    ·exact .inl (H4 y hy))
   have:=(y3 _ cl).1 (.inl rfl)
   simp only[List.mem_cons,List.not_mem_nil,or_false]
   exact this)
  rw[Ws _ (fun _=>rfl),List.length_range,r1]at this
  exact this
 have hs:=agJ p n hp hi
 obtain⟨f1,f2⟩:=ZA _ four
 rw[hs]at f1 f2
 exact⟨f2 (by omega),by omega⟩
def visit (s:List Int×List Int) (d:Int):List Int×List Int:=if rd s.1 d<0 then(s.1.set d.toNat (s.2.length:Int),s.2++[d])else s
def wk (t f:List Int):Nat->List Int->List Int->Nat->List Int
 |0,nm,od,i=>nm
 |k+1,nm,od,i=>if i<od.length then wk t f k (visit (visit (nm,od) (rd t (rd od (i:Int)))) (rd f (rd od (i:Int)))).1 (visit (visit (nm,od) (rd t (rd od (i:Int)))) (rd f (rd od (i:Int)))).2 (i+1)else nm
def NI (n:Nat) (s:List Int×List Int):Prop:=s.1.length=n/\(∀k:Nat,k<s.2.length->0<=rd s.2 (k:Int)/\rd s.2 (k:Int)<n/\rd s.1 (rd s.2 (k:Int))=k)/\∀x:Nat,x<n->rd s.1 (x:Int)<0\/(0<=rd s.1 (x:Int)/\rd s.1 (x:Int)<s.2.length/\rd s.2 (rd s.1 (x:Int))=x)
theorem Am (l:List Int) (v:Int) (k:Nat) (h:k<l.length):rd (l++[v]) (k:Int)=rd l (k:Int):=by
 rw[kE _ _ (by simp;omega),kE _ _ h,List.getElem_append_left h]
theorem Dt (l:List Int) (v:Int):rd (l++[v]) (l.length:Int)=v:=by
 rw[kE _ _ (by simp)]
 simp
theorem NI.visit {n:Nat} {s:List Int×List Int} (h:NI n s) (d:Int) (h0:0<=d) (h1:d<n):NI n (visit s d)/\0<=rd (Go.Proofs.Ytlpbalebodlipaa.PL.visit s d).1 d/\s.2.length<=(Go.Proofs.Ytlpbalebodlipaa.PL.visit s d).2.length/\(∀k:Nat,k<s.2.length->rd (Go.Proofs.Ytlpbalebodlipaa.PL.visit s d).2 (k:Int)=rd s.2 (k:Int))/\∀x:Nat,x<n->0<=rd s.1 (x:Int)->0<=rd (Go.Proofs.Ytlpbalebodlipaa.PL.visit s d).1 (x:Int):=by
 obtain⟨a,b,c⟩:=id h
 have ed:((d.toNat:Nat):Int)=d:=by omega
 unfold Go.Proofs.Ytlpbalebodlipaa.PL.visit
 by_cases z:rd s.1 d<0
 · rw[if_pos z]
   have put:∀x:Nat,rd (s.1.set d.toNat (s.2.length:Int)) (x:Int)=if x=d.toNat then(s.2.length:Int)else rd s.1 (x:Int):=fun x=>oL s.1 d.toNat x _ (by omega)
   refine⟨⟨by simp[a],fun k hk=>?_,fun x hx=>?_⟩,?_,by simp,fun k hk=>Am _ _ _ hk,fun x hx hx0=>?_⟩
   · simp only[List.length_append,List.length_cons,List.length_nil]at hk
     by_cases y:k<s.2.length
     · obtain⟨k1,k2,k3⟩:=b k y
       have eo:(((rd s.2 (k:Int)).toNat:Nat):Int)=rd s.2 (k:Int):=by omega
       show 0<=rd (s.2++[d]) (k:Int)/\rd (s.2++[d]) (k:Int)<n/\rd (s.1.set d.toNat (s.2.length:Int)) (rd (s.2++[d]) (k:Int))=k
       rw[Am _ _ _ y]
       refine⟨k1,k2,?_⟩
       rw[<-eo,put,if_neg,eo]
       ·exact k3
       · intro w
         have:rd s.2 (k:Int)=d:=by omega
         rw[this]at k3
         omega
     · have:k=s.2.length:=by omega
       subst this
       show 0<=rd (s.2++[d]) (s.2.length:Int)/\rd (s.2++[d]) (s.2.length:Int)<n/\rd (s.1.set d.toNat (s.2.length:Int)) (rd (s.2++[d]) (s.2.length:Int))=s.2.length
       rw[Dt]
       refine⟨h0,h1,?_⟩
       have pd:=put d.toNat
       rw[ed,if_pos rfl]at pd
       exact pd
   · show rd (s.1.set d.toNat (s.2.length:Int)) (x:Int)<0\/(0<=rd (s.1.set d.toNat (s.2.length:Int)) (x:Int)/\rd (s.1.set d.toNat (s.2.length:Int)) (x:Int)<((s.2++[d]).length:Nat)/\rd (s.2++[d]) (rd (s.1.set d.toNat (s.2.length:Int)) (x:Int))=x)
     rw[put]
     by_cases y:x=d.toNat
     · rw[if_pos y]
       right
       refine⟨by omega,by simp only[List.length_append,List.length_cons,List.length_nil];omega,?_⟩
       rw[Dt]
       omega
     · rw[if_neg y]
       rcases c x hx with w|⟨w1,w2,w3⟩
       ·exact .inl w
       · right
         refine⟨w1,by simp only[List.length_append,List.length_cons,List.length_nil];omega,?_⟩
         have ew:(((rd s.1 (x:Int)).toNat:Nat):Int)=rd s.1 (x:Int):=by omega
         rw[<-ew,Am _ _ _ (by omega),ew]
         exact w3
   · show 0<=rd (s.1.set d.toNat (s.2.length:Int)) d
     have pd:=put d.toNat
     rw[ed,if_pos rfl]at pd
     rw[pd]
     omega
   · show 0<=rd (s.1.set d.toNat (s.2.length:Int)) (x:Int)
     rw[put]
     split
     ·omega
     ·exact hx0
 · rw[if_neg z]
   exact⟨h,by omega,Nat.le_refl _,fun _ _=>rfl,fun _ _ q=>q⟩
theorem NI.le {n:Nat} {s:List Int×List Int} (h:NI n s):s.2.length<=n:=by
 obtain⟨a,b,c⟩:=h
 have nd:((List.range s.2.length).map fun(k:Nat)=>(rd s.2 (k:Int)).toNat).Nodup:=by
  refine List.pairwise_map.2 (List.Pairwise.imp_of_mem (fun {x y} hx hy hxy e=>hxy ?_) (List.nodup_range (n:=s.2.length)))
  have b1:=b x (List.mem_range.1 hx)
  have b2:=b y (List.mem_range.1 hy)
  have e:(rd s.2 (x:Int)).toNat=(rd s.2 (y:Int)).toNat:=e
  have:rd s.2 (x:Int)=rd s.2 (y:Int):=by omega
  rw[this]at b1
  omega
 have:=vF ((List.range s.2.length).map fun(k:Nat)=>(rd s.2 (k:Int)).toNat) (List.range n) nd (fun x hx=>by
  obtain⟨k,hk,rfl⟩:=List.mem_map.1 hx
  have:=b k (List.mem_range.1 hk)
  exact List.mem_range.2 (by omega))
 simpa using this
theorem Wd (t f nm od ds:List Int) (i:Int) (n:Nat) (hn:n<=12) (h:NI n (nm,od)) (j:Nat) (hj:j<ds.length) (hds:ds.length=2) (h0:0<=rd ds (j:Int)) (h1:rd ds (j:Int)<n) (r:List Int)
 (e:Ev (fun k=>eO.l2 k (visit (nm,od) (rd ds (j:Int))).1 (visit (nm,od) (rd ds (j:Int))).2 i ds (ds.length:Int) ((j+1:Nat):Int) t f) r):Ev (fun k=>eO.l2 k nm od i ds (ds.length:Int) (j:Int) t f) r:=by
 have hl:=h.le
 have hl:od.length<=n:=hl
 have hnm:nm.length=n:=h.1
 refine Ev.s ?_
 simp only[eO.l2,show(j:Int)<(ds.length:Int) by omega,show(0:Int)<=(j:Int) by omega,h0,show rd ds (j:Int)<(nm.length:Int) by omega,if_true]
 rw[fz (show j<4611686018427387904 by omega)]
 unfold visit at e
 by_cases z:rd nm (rd ds (j:Int))<0
 · simp only[z,if_true,show od.length<17592186044416 by omega]at e ⊢
   exact e
 · simp only[z,if_false]at e ⊢
   exact e
theorem Yd (t f:List Int) (n:Nat) (hn:n<=12) (ht:inR n t) (hf:inR n f):∀(m:Nat) (nm od:List Int) (i:Nat),NI n (nm,od)->i<=od.length->n-i<m->Ev (fun k=>eO.l1 k nm od (i:Int) t f) (wk t f m nm od i)
 |0,nm,od,i,h,hi,hm=>by omega
 |m+1,nm,od,i,h,hi,hm=>by
  have hl:od.length<=n:=h.le
  by_cases z:i<od.length
  · obtain⟨b1,b2,b3⟩:=h.2.1 i z
    have b1:0<=rd od (i:Int):=b1
    have b2:rd od (i:Int)<n:=b2
    have eo:(((rd od (i:Int)).toNat:Nat):Int)=rd od (i:Int):=by omega
    have rt:=ht.2 (rd od (i:Int)).toNat (by omega)
    have rf:=hf.2 (rd od (i:Int)).toNat (by omega)
    rw[eo]at rt rf
    obtain⟨v1,v2,v3,v4,v5⟩:=h.visit (rd t (rd od (i:Int))) rt.1 rt.2
    obtain⟨u1,u2,u3,u4,u5⟩:=v1.visit (rd f (rd od (i:Int))) rf.1 rf.2
    have ih:=Yd t f n hn ht hf m (visit (visit (nm,od) (rd t (rd od (i:Int)))) (rd f (rd od (i:Int)))).1 (visit (visit (nm,od) (rd t (rd od (i:Int)))) (rd f (rd od (i:Int)))).2 (i+1) u1 (by have:od.length<=_:=v3;omega) (by omega)
    have hw:wk t f (m+1) nm od i=wk t f m (visit (visit (nm,od) (rd t (rd od (i:Int)))) (rd f (rd od (i:Int)))).1 (visit (visit (nm,od) (rd t (rd od (i:Int)))) (rd f (rd od (i:Int)))).2 (i+1):=by
     rw[wk,if_pos z]
    rw[hw]
    refine Ev.s ?_
    have htl:=ht.1
    have hfl:=hf.1
    simp only[eO.l1,show(i:Int)<(od.length:Int) by omega,show(0:Int)<=(i:Int) by omega,b1,show rd od (i:Int)<(t.length:Int) by omega,show rd od (i:Int)<(f.length:Int) by omega,if_true,Option.bind_some]
    have d0:rd [rd t (rd od (i:Int)),rd f (rd od (i:Int))] ((0:Nat):Int)=rd t (rd od (i:Int)):=rfl
    have d1:rd [rd t (rd od (i:Int)),rd f (rd od (i:Int))] ((1:Nat):Int)=rd f (rd od (i:Int)):=rfl
    refine Wd t f nm od [rd t (rd od (i:Int)),rd f (rd od (i:Int))] i n hn h 0 (by simp) rfl (by rw[d0];exact rt.1) (by rw[d0];exact rt.2) _ ?_
    rw[d0]
    refine Wd t f _ _ [rd t (rd od (i:Int)),rd f (rd od (i:Int))] i n hn v1 1 (by simp) rfl (by rw[d1];exact rf.1) (by rw[d1];exact rf.2) _ ?_
    rw[d1]
    refine Ev.s ?_
    simp only[eO.l2,show ¬(((1+1:Nat):Int)<(([rd t (rd od (i:Int)),rd f (rd od (i:Int))]:List Int).length:Int)) by simp,if_false]
    rw[fz (show i<4611686018427387904 by omega)]
    exact ih
  · have hw:wk t f (m+1) nm od i=nm:=by rw[wk,if_neg z]
    rw[hw]
    refine Ev.s ?_
    simp only[eO.l1,show ¬(i:Int)<(od.length:Int) by omega,if_false]
    exact Ev.const rfl
theorem Y1 (t f:List Int) (n:Nat) (ht:inR n t) (hf:inR n f):∀(m:Nat) (nm od:List Int) (i:Nat),NI n (nm,od)->i<=od.length->n-i<m->(∀k:Nat,k<i->0<=rd nm (rd t (rd od (k:Int)))/\0<=rd nm (rd f (rd od (k:Int))))->
 ∃od',NI n (wk t f m nm od i,od')/\(∀k:Nat,k<od'.length->0<=rd (wk t f m nm od i) (rd t (rd od' (k:Int)))/\0<=rd (wk t f m nm od i) (rd f (rd od' (k:Int))))/\∀x:Nat,x<n->0<=rd nm (x:Int)->0<=rd (wk t f m nm od i) (x:Int)
 |0,nm,od,i,h,hi,hm,hc=>by omega
 |m+1,nm,od,i,h,hi,hm,hc=>by
  have hl:od.length<=n:=h.le
  by_cases z:i<od.length
  · obtain⟨b1,b2,b3⟩:=h.2.1 i z
    have b1:0<=rd od (i:Int):=b1
    have b2:rd od (i:Int)<n:=b2
    have eo:(((rd od (i:Int)).toNat:Nat):Int)=rd od (i:Int):=by omega
    have rt:=ht.2 (rd od (i:Int)).toNat (by omega)
    have rf:=hf.2 (rd od (i:Int)).toNat (by omega)
    rw[eo]at rt rf
    obtain⟨v1,v2,v3,v4,v5⟩:=h.visit (rd t (rd od (i:Int))) rt.1 rt.2
    obtain⟨u1,u2,u3,u4,u5⟩:=v1.visit (rd f (rd od (i:Int))) rf.1 rf.2
    have v3:od.length<=_:=v3
    have hw:wk t f (m+1) nm od i=wk t f m (visit (visit (nm,od) (rd t (rd od (i:Int)))) (rd f (rd od (i:Int)))).1 (visit (visit (nm,od) (rd t (rd od (i:Int)))) (rd f (rd od (i:Int)))).2 (i+1):=by
     rw[wk,if_pos z]
    rw[hw]
    have more:∀x:Int,0<=x->x<n->0<=rd nm x->0<=rd (visit (visit (nm,od) (rd t (rd od (i:Int)))) (rd f (rd od (i:Int)))).1 x:=fun x x0 x1 hx=>by
     have:=u5 x.toNat (by omega) (v5 x.toNat (by omega) (by rw[show((x.toNat:Nat):Int)=x by omega];exact hx))
     rwa [show((x.toNat:Nat):Int)=x by omega]at this
    obtain⟨od',q1,q2,q3⟩:=Y1 t f n ht hf m (visit (visit (nm,od) (rd t (rd od (i:Int)))) (rd f (rd od (i:Int)))).1 (visit (visit (nm,od) (rd t (rd od (i:Int)))) (rd f (rd od (i:Int)))).2 (i+1) u1 (by omega) (by omega) (fun k hk=>by
     have ek:rd (visit (visit (nm,od) (rd t (rd od (i:Int)))) (rd f (rd od (i:Int)))).2 (k:Int)=rd od (k:Int):=by
      rw[u4 k (by have:od.length<=(visit (nm,od) (rd t (rd od (i:Int)))).2.length:=v3;omega),v4 k (by show k<od.length;omega)]
     rw[ek]
     by_cases y:k=i
     · subst y
       refine⟨?_,u2⟩
       have:=u5 (rd t (rd od (k:Int))).toNat (by omega) (by rw[show(((rd t (rd od (k:Int))).toNat:Nat):Int)=rd t (rd od (k:Int)) by omega];exact v2)
       rwa [show(((rd t (rd od (k:Int))).toNat:Nat):Int)=rd t (rd od (k:Int)) by omega]at this
     · obtain⟨c1,c2⟩:=hc k (by omega)
       obtain⟨k1,k2,_⟩:=h.2.1 k (by show k<od.length;omega)
       have k1:0<=rd od (k:Int):=k1
       have k2:rd od (k:Int)<n:=k2
       have ek2:(((rd od (k:Int)).toNat:Nat):Int)=rd od (k:Int):=by omega
       have kt:=ht.2 (rd od (k:Int)).toNat (by omega)
       have kf:=hf.2 (rd od (k:Int)).toNat (by omega)
       rw[ek2]at kt kf
       exact⟨more _ kt.1 kt.2 c1,more _ kf.1 kf.2 c2⟩)
    exact⟨od',q1,q2,fun x hx hx0=>q3 x hx (more x (by omega) (by omega) hx0)⟩
  · have hw:wk t f (m+1) nm od i=nm:=by rw[wk,if_neg z]
    rw[hw]
    exact⟨od,h,fun k hk=>hc k (by omega),fun x _ q=>q⟩
def nmF (t f:List Int) (n r:Nat):List Int:=wk t f (n+1) ((List.replicate n (-1)).set r 0) [(r:Int)] 0
theorem IG (n r:Nat) (hr:r<n):NI n ((List.replicate n (-1)).set r 0,[(r:Int)]):=by
 have put:∀x:Nat,x<n->rd ((List.replicate n (-1)).set r 0) (x:Int)=if x=r then 0 else-1:=fun x hx=>by
  rw[oL _ _ _ _ (by simpa using hr)]
  split
  ·rfl
  ·exact yS n (-1) x hx
 refine⟨by simp,fun k hk=>?_,fun x hx=>?_⟩
 · simp only[List.length_cons,List.length_nil]at hk
   have:k=0:=by omega
   subst this
   show 0<=(r:Int)/\(r:Int)<n/\rd ((List.replicate n (-1)).set r 0) (r:Int)=((0:Nat):Int)
   refine⟨by omega,by omega,?_⟩
   rw[put r hr,if_pos rfl]
   rfl
 · show rd ((List.replicate n (-1)).set r 0) (x:Int)<0\/(0<=rd ((List.replicate n (-1)).set r 0) (x:Int)/\rd ((List.replicate n (-1)).set r 0) (x:Int)<(1:Nat)/\rd [(r:Int)] (rd ((List.replicate n (-1)).set r 0) (x:Int))=x)
   rw[put x hx]
   by_cases z:x=r
   · rw[if_pos z,z]
     exact .inr ⟨by decide,by decide,rfl⟩
   · rw[if_neg z]
     exact .inl (by decide)
theorem I9 (t f:List Int) (n:Nat) (H:jO t f n) (r:Nat) (hr:r<n):inR n (nmF t f n r)/\fK n (nmF t f n r):=by
 obtain⟨hn,h1,ht,hi,hf,hfl,hcon⟩:=H
 obtain⟨od,q1,q2,q3⟩:=Y1 t f n ht hf (n+1) _ _ 0 (IG n r hr) (Nat.zero_le _) (by omega) (fun k hk=>by omega)
 change NI n (nmF t f n r,od)at q1
 change ∀k:Nat,k<od.length->0<=rd (nmF t f n r) (rd t (rd od (k:Int)))/\0<=rd (nmF t f n r) (rd f (rd od (k:Int)))at q2
 change ∀x:Nat,x<n->0<=rd ((List.replicate n (-1)).set r 0) (x:Int)->0<=rd (nmF t f n r) (x:Int)at q3
 have hl:od.length<=n:=q1.le
 obtain⟨a,b,c⟩:=id q1
 have a:(nmF t f n r).length=n:=a
 have b:∀k:Nat,k<od.length->0<=rd od (k:Int)/\rd od (k:Int)<n/\rd (nmF t f n r) (rd od (k:Int))=k:=b
 have c:∀x:Nat,x<n->rd (nmF t f n r) (x:Int)<0\/(0<=rd (nmF t f n r) (x:Int)/\rd (nmF t f n r) (x:Int)<od.length/\rd od (rd (nmF t f n r) (x:Int))=x):=c
 have root:0<=rd (nmF t f n r) (r:Int):=q3 r hr (by rw[oL _ _ _ _ (by simpa using hr),if_pos rfl];omega)
 have fwd:∀x:Nat,x<n->0<=rd (nmF t f n r) (x:Int)->0<=rd (nmF t f n r) (rd t (x:Int))/\0<=rd (nmF t f n r) (rd f (x:Int)):=by
  intro x hx h0
  rcases c x hx with w|⟨w1,w2,w3⟩
  ·omega
  · have:=q2 (rd (nmF t f n r) (x:Int)).toNat (by omega)
    rw[show(((rd (nmF t f n r) (x:Int)).toNat:Nat):Int)=rd (nmF t f n r) (x:Int) by omega,w3]at this
    exact this
 have all:∀x:Nat,x<n->0<=rd (nmF t f n r) (x:Int):=by
  intro x hx
  have ct:=vE t n ht hi (fun z=>z<n->0<=rd (nmF t f n r) (z:Int)) (fun k hk hs hk'=>by
   have r:=ht.2 k hk
   have:=(fwd k hk (hs hk)).1
   rwa [show(((rd t (k:Int)).toNat:Nat):Int)=rd t (k:Int) by omega])
  have cf:∀k:Nat,k<n->((k<n->0<=rd (nmF t f n r) (k:Int))↔((rd f (k:Int)).toNat<n->0<=rd (nmF t f n r) ((rd f (k:Int)).toNat:Int))):=by
   intro k hk
   have rr:=hf.2 k hk
   have e0:(((rd f (k:Int)).toNat:Nat):Int)=rd f (k:Int):=by omega
   constructor
   · intro hs _
     rw[e0]
     exact(fwd k hk (hs hk)).2
   · intro hs _
     have:=(fwd (rd f (k:Int)).toNat (by omega) (hs (by omega))).2
     rwa [e0,(hfl k hk).2]at this
  refine((hcon r x hr hx) (fun z=>z<n->0<=rd (nmF t f n r) (z:Int)) ?_).1 (fun _=>root) hx
  intro p hp k hk
  rcases List.mem_cons.1 hp with rfl|hp
  ·exact ct p (by simp) k hk
  · rw[List.mem_singleton.1 hp]
    exact cf k hk
 refine⟨⟨a,fun x hx=>?_⟩,fun x y hx hy e=>?_⟩
 · rcases c x hx with w|⟨w1,w2,w3⟩
   · have:=all x hx
     omega
   ·exact⟨w1,by omega⟩
 · rcases c x hx with w|⟨w1,w2,w3⟩
   · have:=all x hx
     omega
   · rcases c y hy with v|⟨v1,v2,v3⟩
     · have:=all y hy
       omega
     · rw[e]at w3
       omega
theorem ZC (t f:List Int) (n:Nat) (hn:n<=12) (r:Nat) (hr:r<n) (o:List Int) (h:Ev (fun k=>eO.l1 k ((List.replicate n (-1)).set r 0) [(r:Int)] 0 t f) o):∀(d i:Nat) (y:List Int),n-i=d->i<=n->y.length=n->(∀z:Nat,z<i->rd y (z:Int)= -1)->Ev (fun k=>eO.l0 k (r:Int) y (n:Int) (i:Int) t f) o
 |0,i,y,hd,hi,hy,hz=>by
  have:i=n:=by omega
  subst this
  have ey:y=List.replicate i (-1):=Fq _ _ (by simp[hy]) fun z hz'=>by
   rw[hz z (by omega),yS i (-1) z (by omega)]
  subst ey
  refine Ev.s ?_
  simp only[eO.l0,show ¬(i:Int)<(i:Int) by omega,if_false,show(0:Int)<=(r:Int) by omega,List.length_replicate,show(r:Int)<(i:Int) by omega,if_true,Int.toNat_natCast]
  exact h
 |d+1,i,y,hd,hi,hy,hz=>by
  have ih:=ZC t f n hn r hr o h d (i+1) (y.set i (-1)) (by omega) (by omega) (by simp[hy]) (fun z hz'=>by
   rw[oL _ _ _ _ (by omega)]
   split
   ·rfl
   ·exact hz z (by omega))
  refine Ev.s ?_
  simp only[eO.l0,show(i:Int)<(n:Int) by omega,show(0:Int)<=(i:Int) by omega,hy,if_true,Int.toNat_natCast]
  rw[fz (show i<4611686018427387904 by omega)]
  exact ih
theorem Nc (t f:List Int) (n:Nat) (H:jO t f n) (r:Nat) (hr:r<n):Ev (fun k=>eO.f k t f (r:Int)) (nmF t f n r):=by
 obtain⟨hn,h1,ht,hi,hf,hfl,hcon⟩:=H
 have w:=Yd t f n hn ht hf (n+1) _ _ 0 (IG n r hr) (Nat.zero_le _) (by omega)
 have hl:=ht.1
 unfold eO.f
 simp only[hl,show(0:Int)<=(n:Int) by omega,Int.toNat_natCast,show n<=35184372088832 by omega,if_true,Option.bind_some,List.length_replicate]
 exact ZC t f n hn r hr _ w n 0 (List.replicate n 0) (by omega) (by omega) (by simp) (fun z hz=>by omega)
def reT (t nm:List Int) (n:Nat):List Int:=bX (bX (fM nm n n) t n) nm n
theorem NS (t f nm:List Int) (n:Nat) (hn:n<=12) (ht:inR n t) (hf:inR n f) (hm:inR n nm):Ev (fun k=>kI.f k t f nm) (reT t nm n,reT f nm n):=by
 have hb:=IK n (by omega) nm hm
 have hbi:=yE nm n
 unfold kI.f
 refine Ev.bind hb ?_
 refine Ev.bind (wW n (by omega) _ _ hbi ht) ?_
 refine Ev.bind (wW n (by omega) _ _ (qW n _ _ hbi ht) hm) ?_
 refine Ev.bind hb ?_
 refine Ev.bind (wW n (by omega) _ _ hbi hf) ?_
 refine Ev.bind (wW n (by omega) _ _ (qW n _ _ hbi hf) hm) ?_
 exact Ev.const rfl
def Iso (n:Nat) (s:Nat->Nat) (t f t' f':List Int):Prop:=(∀x,x<n->s x<n)/\(∀x y,x<n->y<n->s x=s y->x=y)/\(∀x,x<n->rd t' ((s x:Nat):Int)=(s (rd t (x:Int)).toNat:Int))/\∀x,x<n->rd f' ((s x:Nat):Int)=(s (rd f (x:Int)).toNat:Int)
def ER (n:Nat) (s:Nat->Nat) (a b:List Int×List Int):Prop:=b.2.length=a.2.length/\(∀k:Nat,k<a.2.length->rd b.2 (k:Int)=(s (rd a.2 (k:Int)).toNat:Int))/\∀x,x<n->rd b.1 ((s x:Nat):Int)=rd a.1 (x:Int)
theorem ER.visit {n:Nat} {s:Nat->Nat} {a b:List Int×List Int} (h:ER n s a b) (ha:NI n a) (hb:NI n b) (s1:∀x,x<n->s x<n) (s2:∀x y,x<n->y<n->s x=s y->x=y) (d:Nat) (hd:d<n):ER n s (visit a (d:Int)) (visit b ((s d:Nat):Int)):=by
 obtain⟨e1,e2,e3⟩:=h
 unfold Go.Proofs.Ytlpbalebodlipaa.PL.visit
 rw[e3 d hd]
 by_cases z:rd a.1 (d:Int)<0
 · rw[if_pos z,if_pos z]
   refine⟨by simp[e1],fun k hk=>?_,fun x hx=>?_⟩
   · simp only[List.length_append,List.length_cons,List.length_nil]at hk
     show rd (b.2++[((s d:Nat):Int)]) (k:Int)=(s (rd (a.2++[(d:Int)]) (k:Int)).toNat:Int)
     by_cases y:k<a.2.length
     ·rw[Am _ _ _ y,Am _ _ _ (by omega),e2 k y]
     · have:k=a.2.length:=by omega
       subst this
       rw[Dt,<-e1,Dt,Int.toNat_natCast]
   · show rd (b.1.set ((s d:Nat):Int).toNat (b.2.length:Int)) ((s x:Nat):Int)=rd (a.1.set (d:Int).toNat (a.2.length:Int)) (x:Int)
     have l1:=ha.1
     have l2:=hb.1
     have sd:=s1 d hd
     rw[Int.toNat_natCast,Int.toNat_natCast,oL _ _ _ _ (by omega),oL _ _ _ _ (by omega),e1]
     by_cases y:x=d
     ·rw[if_pos y,if_pos (by rw[y])]
     ·rw[if_neg y,if_neg (fun w=>y (s2 x d hx hd w)),e3 x hx]
 · rw[if_neg z,if_neg z]
   exact⟨e1,e2,e3⟩
theorem WQ (n:Nat) (s:Nat->Nat) (t f t' f':List Int) (ht:inR n t) (hf:inR n f) (ht':inR n t') (hf':inR n f') (I:Iso n s t f t' f'):∀(m:Nat) (nm od nm' od':List Int) (i:Nat),NI n (nm,od)->NI n (nm',od')->ER n s (nm,od) (nm',od')->∀x,x<n->rd (wk t' f' m nm' od' i) ((s x:Nat):Int)=rd (wk t f m nm od i) (x:Int)
 |0,nm,od,nm',od',i,h,h',e,x,hx=>by
  rw[wk,wk]
  exact e.2.2 x hx
 |m+1,nm,od,nm',od',i,h,h',e,x,hx=>by
  obtain⟨s1,s2,s3,s4⟩:=id I
  have e1:od'.length=od.length:=e.1
  rw[wk,wk,e1]
  by_cases z:i<od.length
  · rw[if_pos z,if_pos z]
    obtain⟨b1,b2,b3⟩:=h.2.1 i z
    have b1:0<=rd od (i:Int):=b1
    have b2:rd od (i:Int)<n:=b2
    have eo:(((rd od (i:Int)).toNat:Nat):Int)=rd od (i:Int):=by omega
    have ei:rd od' (i:Int)=(s (rd od (i:Int)).toNat:Int):=e.2.1 i z
    have rt:=ht.2 (rd od (i:Int)).toNat (by omega)
    have rf:=hf.2 (rd od (i:Int)).toNat (by omega)
    have ft:=s3 (rd od (i:Int)).toNat (by omega)
    have ff:=s4 (rd od (i:Int)).toNat (by omega)
    rw[eo]at rt rf ft ff
    rw[ei,ft,ff]
    have et:(((rd t (rd od (i:Int))).toNat:Nat):Int)=rd t (rd od (i:Int)):=by omega
    have ef:(((rd f (rd od (i:Int))).toNat:Nat):Int)=rd f (rd od (i:Int)):=by omega
    have st:=s1 (rd t (rd od (i:Int))).toNat (by omega)
    have sf:=s1 (rd f (rd od (i:Int))).toNat (by omega)
    have E1:=e.visit h h' s1 s2 (rd t (rd od (i:Int))).toNat (by omega)
    obtain⟨v1,_⟩:=h.visit (rd t (rd od (i:Int))) rt.1 rt.2
    obtain⟨v1',_⟩:=h'.visit ((s (rd t (rd od (i:Int))).toNat:Nat):Int) (by omega) (by omega)
    rw[et]at E1
    have E2:=E1.visit v1 v1' s1 s2 (rd f (rd od (i:Int))).toNat (by omega)
    obtain⟨u1,_⟩:=v1.visit (rd f (rd od (i:Int))) rf.1 rf.2
    obtain⟨u1',_⟩:=v1'.visit ((s (rd f (rd od (i:Int))).toNat:Nat):Int) (by omega) (by omega)
    rw[ef]at E2
    exact WQ n s t f t' f' ht hf ht' hf' I m _ _ _ _ (i+1) u1 u1' E2 x hx
  · rw[if_neg z,if_neg z]
    exact e.2.2 x hx
theorem ah2 (n:Nat) (s:Nat->Nat) (t f t' f':List Int) (ht:inR n t) (hf:inR n f) (ht':inR n t') (hf':inR n f') (I:Iso n s t f t' f') (r:Nat) (hr:r<n) (x:Nat) (hx:x<n):rd (nmF t' f' n (s r)) ((s x:Nat):Int)=rd (nmF t f n r) (x:Int):=by
 refine WQ n s t f t' f' ht hf ht' hf' I (n+1) _ _ _ _ 0 (IG n r hr) (IG n (s r) (I.1 r hr)) ⟨rfl,fun k hk=>?_,fun y hy=>?_⟩ x hx
 · simp only[List.length_cons,List.length_nil]at hk
   have:k=0:=by omega
   subst this
   show((s r:Nat):Int)=(s (r:Int).toNat:Int)
   rw[Int.toNat_natCast]
 · show rd ((List.replicate n (-1)).set (s r) 0) ((s y:Nat):Int)=rd ((List.replicate n (-1)).set r 0) (y:Int)
   rw[oL _ _ _ _ (by simpa using I.1 r hr),oL _ _ _ _ (by simpa using hr)]
   by_cases z:y=r
   ·rw[if_pos z,if_pos (by rw[z])]
   ·rw[if_neg z,if_neg (fun w=>z (I.2.1 y r hy hr w)),yS n (-1) y hy,yS n (-1) (s y) (I.1 y hy)]
theorem agq (n:Nat) (s:Nat->Nat) (t f t' f':List Int) (H:jO t f n) (H':jO t' f' n) (I:Iso n s t f t' f') (r:Nat) (hr:r<n):reT t' (nmF t' f' n (s r)) n=reT t (nmF t f n r) n/\reT f' (nmF t' f' n (s r)) n=reT f (nmF t f n r) n:=by
 obtain⟨hn,h1,ht,hi,hf,hfl,hcon⟩:=id H
 obtain⟨_,_,ht',hi',hf',_,_⟩:=id H'
 obtain⟨a1,a2⟩:=I9 t f n H r hr
 obtain⟨b1,b2⟩:=I9 t' f' n H' (s r) (I.1 r hr)
 have eq:=fun x hx=>ah2 n s t f t' f' ht hf ht' hf' I r hr x hx
 have sur:∀k:Nat,k<n->∃x:Nat,x<n/\rd (nmF t f n r) (x:Int)=k:=by
  intro k hk
  obtain⟨m,_,h2⟩:=FN (nmF t f n r) n a1 a2 k (by omega)
  have hin:=sJ (nmF t f n r) n a1 m k (by omega)
  refine⟨(itr (nmF t f n r) m k).toNat,by omega,?_⟩
  rw[show(((itr (nmF t f n r) m k).toNat:Nat):Int)=itr (nmF t f n r) m k by omega]
  rw[wY]at h2
  exact h2
 have key:∀(p p':List Int),inR n p->(∀x,x<n->rd p' ((s x:Nat):Int)=(s (rd p (x:Int)).toNat:Int))->reT p' (nmF t' f' n (s r)) n=reT p (nmF t f n r) n:=by
  intro p p' hp hpp
  unfold reT
  refine Fq _ _ (by rw[tz,tz]) fun k hk=>?_
  rw[tz]at hk
  rw[mI _ _ n k hk,mI _ _ n k hk,mI _ _ n k hk,mI _ _ n k hk]
  obtain⟨x,hx,ex⟩:=sur k hk
  have r1:=E8 (nmF t f n r) n a1 a2 n (Nat.le_refl _) x hx
  rw[ex]at r1
  have r2:=E8 (nmF t' f' n (s r)) n b1 b2 n (Nat.le_refl _) (s x) (I.1 x hx)
  rw[eq x hx,ex]at r2
  have pr:=hp.2 x hx
  rw[r1,r2,hpp x hx,eq _ (by omega),show(((rd p (x:Int)).toNat:Nat):Int)=rd p (x:Int) by omega]
 exact⟨key t t' ht I.2.2.1,key f f' hf I.2.2.2⟩
def vsd (l:List Int) (n:Nat):Nat->Int
 |0=>0
 |d+1=>rd l ((n-1-d:Nat):Int)*16^d+vsd l n d
theorem Ff (l:List Int) (n:Nat) (hn:n<=12) (h:inR n l):∀d,d<=n->0<=vsd l n d/\vsd l n d<16^d
 |0,_=>by simp[vsd]
 |d+1,hd=>by
  obtain⟨a,b⟩:=Ff l n hn h d (by omega)
  have r:=h.2 (n-1-d) (by omega)
  rw[vsd,Int.pow_succ]
  have hp:(0:Int)<16^d:=by omega
  generalize (16:Int)^d=P at*
  have m1:0<=rd l ((n-1-d:Nat):Int)*P:=Int.mul_nonneg r.1 (by omega)
  have m2:rd l ((n-1-d:Nat):Int)*P<=15*P:=Int.mul_le_mul_of_nonneg_right (by omega) (by omega)
  omega
theorem Ob (a b:List Int) (n:Nat) (hn:n<=12) (ha:inR n a) (hb:inR n b):∀(d i:Nat),n-i=d->i<=n->∃c:Int,Ev (fun k=>mg.l0 k a b a (n:Int) (i:Int)) c/\(c<0↔vsd a n d<vsd b n d)/\(c=0↔vsd a n d=vsd b n d)
 |0,i,hd,hi=>by
  have:i=n:=by omega
  subst this
  have l1:=ha.1
  have l2:=hb.1
  refine⟨0,Ev.s ?_,by simp[vsd],by simp[vsd]⟩
  simp only[mg.l0,show ¬(i:Int)<(i:Int) by omega,if_false,l1,l2]
  exact Ev.const rfl
 |d+1,i,hd,hi=>by
  obtain⟨c,c1,c2,c3⟩:=Ob a b n hn ha hb d (i+1) (by omega) (by omega)
  obtain⟨p1,p2⟩:=Ff a n hn ha d (by omega)
  obtain⟨q1,q2⟩:=Ff b n hn hb d (by omega)
  have ei:n-1-d=i:=by omega
  have l1:=ha.1
  have l2:=hb.1
  have hp:(0:Int)<16^d:=by omega
  have nan:∀x:Int,cmp_isNaN_int.f x=some false:=fun x=>by simp[cmp_isNaN_int.f]
  have step:∀(x y:Int),cmp_Compare_int.f x y=some (if x<y then-1 else if x>y then 1 else 0):=fun x y=>by
   unfold cmp_Compare_int.f
   rw[nan,nan]
   simp only[Option.bind_some,Bool.false_eq_true,if_false]
   split
   ·rfl
   ·split<;>rfl
  have row:∀k,mg.l0 (k+1) a b a (n:Int) (i:Int)=(if(if rd a (i:Int)<rd b (i:Int)then(-1:Int)else if rd a (i:Int)>rd b (i:Int)then 1 else 0)=0 then mg.l0 k a b a (n:Int) ((i+1:Nat):Int)else some (if rd a (i:Int)<rd b (i:Int)then(-1:Int)else if rd a (i:Int)>rd b (i:Int)then 1 else 0)):=fun k=>by
   simp only[mg.l0,show(i:Int)<(n:Int) by omega,show(0:Int)<=(i:Int) by omega,l1,l2,show ¬(i:Int)>=(n:Int) by omega,if_true,if_false,step,Option.bind_some]
   rw[fz (show i<4611686018427387904 by omega)]
  rw[vsd,vsd,ei]
  generalize (16:Int)^d=P at*
  by_cases z:rd a (i:Int)<rd b (i:Int)
  · refine⟨-1,Ev.s ?_,?_,?_⟩
    · simp only[row,if_pos z]
      exact Ev.const rfl
    · have m:(rd a (i:Int)+1)*P<=rd b (i:Int)*P:=Int.mul_le_mul_of_nonneg_right (by omega) (by omega)
      rw[Int.add_mul,Int.one_mul]at m
      constructor
      ·intro _;omega
      ·intro _;decide
    · have m:(rd a (i:Int)+1)*P<=rd b (i:Int)*P:=Int.mul_le_mul_of_nonneg_right (by omega) (by omega)
      rw[Int.add_mul,Int.one_mul]at m
      constructor
      ·intro w;cases w
      ·intro w;omega
  · by_cases y:rd a (i:Int)>rd b (i:Int)
    · have m:(rd b (i:Int)+1)*P<=rd a (i:Int)*P:=Int.mul_le_mul_of_nonneg_right (by omega) (by omega)
      rw[Int.add_mul,Int.one_mul]at m
      refine⟨1,Ev.s ?_,?_,?_⟩
      · simp only[row,if_neg z,if_pos y]
        exact Ev.const rfl
      · constructor
        ·intro w;exact absurd w (by decide)
        ·intro w;omega
      · constructor
        ·intro w;cases w
        ·intro w;omega
    · have e:rd a (i:Int)=rd b (i:Int):=by omega
      refine⟨c,Ev.s ?_,?_,?_⟩
      · simp only[row,if_neg z,if_neg y,if_true]
        exact c1
      ·rw[c2,e];omega
      ·rw[c3,e];omega
def code (T F:List Int) (n:Nat):Int:=vsd T n n*16^n+vsd F n n
theorem WU (T F T' F':List Int) (n:Nat) (hn:n<=12) (h1:inR n T) (h2:inR n F) (h3:inR n T') (h4:inR n F'):∃c:Int,Ev (fun k=>uF.f k T F T' F') c/\(c<0↔code T F n<code T' F' n)/\(c=0↔code T F n=code T' F' n):=by
 obtain⟨c,c1,c2,c3⟩:=Ob T T' n hn h1 h3 n 0 (by omega) (by omega)
 obtain⟨e,e1,e2,e3⟩:=Ob F F' n hn h2 h4 n 0 (by omega) (by omega)
 have a:=Ff F n hn h2 n (Nat.le_refl _)
 have b:=Ff F' n hn h4 n (Nat.le_refl _)
 have l1:=h1.1
 have l2:=h2.1
 have k1:Ev (fun k=>mg.f k T T') c:=by unfold mg.f;rw[l1];exact c1
 have k2:Ev (fun k=>mg.f k F F') e:=by unfold mg.f;rw[l2];exact e1
 have hp:(0:Int)<16^n:=by omega
 unfold code
 generalize vsd T n n=x at*
 generalize vsd T' n n=y at*
 generalize vsd F n n=u at*
 generalize vsd F' n n=v at*
 generalize (16:Int)^n=P at*
 by_cases z:c=0
 · have:x=y:=c3.1 z
   refine⟨e,?_,?_,?_⟩
   · unfold uF.f
     refine Ev.bind k1 ?_
     simp only[z,if_true]
     exact Ev.bind k2 (Ev.const rfl)
   ·rw[e2,this];omega
   ·rw[e3,this];omega
 · refine⟨c,?_,?_,?_⟩
   · unfold uF.f
     refine Ev.bind k1 ?_
     simp only[z,if_false]
     exact Ev.const rfl
   · rw[c2]
     constructor
     · intro w
       have m:(x+1)*P<=y*P:=Int.mul_le_mul_of_nonneg_right (by omega) (by omega)
       rw[Int.add_mul,Int.one_mul]at m
       omega
     · intro w
       by_cases q:x<y
       ·exact q
       · have:x≠y:=fun e=>z (c3.2 e)
         have m:(y+1)*P<=x*P:=Int.mul_le_mul_of_nonneg_right (by omega) (by omega)
         rw[Int.add_mul,Int.one_mul]at m
         omega
   · constructor
     ·intro w;exact absurd w z
     · intro w
       have:x≠y:=fun e=>z (c3.2 e)
       by_cases q:x<y
       · have m:(x+1)*P<=y*P:=Int.mul_le_mul_of_nonneg_right (by omega) (by omega)
         rw[Int.add_mul,Int.one_mul]at m
         omega
       · have m:(y+1)*P<=x*P:=Int.mul_le_mul_of_nonneg_right (by omega) (by omega)
         rw[Int.add_mul,Int.one_mul]at m
         omega
theorem Je (t nm:List Int) (n:Nat) (ht:inR n t) (hm:inR n nm):inR n (reT t nm n):=qW n _ _ (qW n _ _ (yE nm n) ht) hm
def fc (t f:List Int) (n r:Nat):Int:=code (reT t (nmF t f n r) n) (reT f (nmF t f n r) n) n
theorem Oj (t f:List Int) (n:Nat) (H:jO t f n):∀(d i:Nat) (T F:List Int),n-i=d->i<=n->inR n T->inR n F->(∃r,r<n/\code T F n=fc t f n r)->(∀r,r<i->code T F n<=fc t f n r)->
 ∃T' F',Ev (fun k=>nH.l0 k (n:Int) (i:Int) t f T F) (T',F')/\inR n T'/\inR n F'/\(∃r,r<n/\code T' F' n=fc t f n r)/\∀r,r<n->code T' F' n<=fc t f n r
 |0,i,T,F,hd,hi,hT,hF,he,hl=>by
  have:i=n:=by omega
  subst this
  refine⟨T,F,Ev.s ?_,hT,hF,he,hl⟩
  simp only[nH.l0,show ¬(i:Int)<(i:Int) by omega,if_false]
  exact Ev.const rfl
 |d+1,i,T,F,hd,hi,hT,hF,he,hl=>by
  obtain⟨hn,h1,ht,hti,hf,hfl,hcon⟩:=id H
  obtain⟨a1,a2⟩:=I9 t f n H i (by omega)
  have x1:=Je t _ n ht a1
  have x2:=Je f _ n hf a1
  obtain⟨c,c1,c2,c3⟩:=WU _ _ T F n hn x1 x2 hT hF
  by_cases z:c<0
  · have lt:fc t f n i<code T F n:=c2.1 z
    obtain⟨T',F',e1,e2⟩:=Oj t f n H d (i+1) _ _ (by omega) (by omega) x1 x2 ⟨i,by omega,rfl⟩ (fun r hr=>by
     by_cases y:r=i
     ·rw[y];exact Int.le_refl _
     · have:=hl r (by omega)
       exact Int.le_trans (Int.le_of_lt lt) this)
    refine⟨T',F',Ev.s ?_,e2⟩
    simp only[nH.l0,show(i:Int)<(n:Int) by omega,if_true]
    refine Ev.bind (Nc t f n H i (by omega)) ?_
    refine Ev.bind (NS t f _ n hn ht hf a1) ?_
    refine Ev.bind c1 ?_
    simp only[z,if_true,fz (show i<4611686018427387904 by omega)]
    exact e1
  · have ge:code T F n<=fc t f n i:=by
     by_cases q:fc t f n i<code T F n
     ·exact absurd (c2.2 q) z
     ·omega
    obtain⟨T',F',e1,e2⟩:=Oj t f n H d (i+1) T F (by omega) (by omega) hT hF he (fun r hr=>by
     by_cases y:r=i
     ·rw[y];exact ge
     ·exact hl r (by omega))
    refine⟨T',F',Ev.s ?_,e2⟩
    simp only[nH.l0,show(i:Int)<(n:Int) by omega,if_true]
    refine Ev.bind (Nc t f n H i (by omega)) ?_
    refine Ev.bind (NS t f _ n hn ht hf a1) ?_
    refine Ev.bind c1 ?_
    simp only[z,if_false,fz (show i<4611686018427387904 by omega)]
    exact e1
theorem WZ (t f:List Int) (n:Nat) (H:jO t f n):∃T F,Ev (fun k=>nH.f k t f) (T,F)/\inR n T/\inR n F/\(∃r,r<n/\code T F n=fc t f n r)/\∀r,r<n->code T F n<=fc t f n r:=by
 obtain⟨hn,h1,ht,hti,hf,hfl,hcon⟩:=id H
 obtain⟨a1,a2⟩:=I9 t f n H 0 (by omega)
 obtain⟨T,F,e1,e2⟩:=Oj t f n H n 0 _ _ (by omega) (by omega) (Je t _ n ht a1) (Je f _ n hf a1) ⟨0,by omega,rfl⟩ (fun r hr=>by omega)
 refine⟨T,F,?_,e2⟩
 unfold nH.f
 refine Ev.bind (Nc t f n H 0 (by omega)) ?_
 refine Ev.bind (NS t f _ n hn ht hf a1) ?_
 rw[ht.1]
 exact e1
theorem agw (n:Nat) (s:Nat->Nat) (t f t' f':List Int) (hm:isMap t f) (hm':isMap t' f') (H:jO t f n) (H':jO t' f' n) (I:Iso n s t f t' f'):Ev (fun k=>pI.f k t f t' f') true:=by
 obtain⟨hn,h1,ht,hti,hf,hfl,hcon⟩:=id H
 obtain⟨_,_,ht',hti',hf',_,_⟩:=id H'
 have l1:=ht.1
 have l2:=hf.1
 have l3:=ht'.1
 have l4:=hf'.1
 obtain⟨b,_,b2,b3⟩:=AL t f (by omega) (by omega)
 obtain⟨b',_,b2',b3'⟩:=AL t' f' (by omega) (by omega)
 have hb:b=true:=b3.2 hm
 have hb':b'=true:=b3'.2 hm'
 subst hb hb'
 obtain⟨T,F,e1,e2,e3,⟨r,hr,e4⟩,e5⟩:=WZ t f n H
 obtain⟨T',F',g1,g2,g3,⟨r',hr',g4⟩,g5⟩:=WZ t' f' n H'
 obtain⟨c,c1,c2,c3⟩:=WU T F T' F' n hn e2 e3 g2 g3
 have same:∀x,x<n->fc t' f' n (s x)=fc t f n x:=fun x hx=>by
  obtain⟨q1,q2⟩:=agq n s t f t' f' H H' I x hx
  unfold fc
  rw[q1,q2]
 have sur:∃x,x<n/\s x=r':=by
  by_cases z:r'∈(List.range n).map s
  · obtain⟨x,hx,e⟩:=List.mem_map.1 z
    exact⟨x,List.mem_range.1 hx,e⟩
  · exfalso
    have nd:((List.range n).map s).Nodup:=by
     refine List.pairwise_map.2 (List.Pairwise.imp_of_mem (fun {x y} hx hy hxy e=>hxy ?_) (List.nodup_range (n:=n)))
     exact I.2.1 x y (List.mem_range.1 hx) (List.mem_range.1 hy) e
    have:=vF (r'::(List.range n).map s) (List.range n) (List.nodup_cons.2 ⟨z,nd⟩) (fun x hx=>by
     rcases List.mem_cons.1 hx with rfl|hx
     ·exact List.mem_range.2 hr'
     · obtain⟨y,hy,rfl⟩:=List.mem_map.1 hx
       exact List.mem_range.2 (I.1 y (List.mem_range.1 hy)))
    simp only[List.length_cons,List.length_map,List.length_range]at this
    omega
 obtain⟨x,hx,ex⟩:=sur
 have v1:=e5 x hx
 rw[<-same x hx,ex,<-g4]at v1
 have v2:=g5 (s r) (I.1 r hr)
 rw[same r hr,<-e4]at v2
 have hc:c=0:=c3.2 (by omega)
 subst hc
 unfold pI.f
 refine Ev.bind b2 ?_
 simp only[if_true]
 refine Ev.bind b2' ?_
 simp only[if_true]
 rw[l1,l3,show(((n:Int) !=(n:Int)))=false by simp]
 refine Ev.s ?_
 simp only[pI.j0,Bool.false_eq_true,if_false]
 refine Ev.bind e1 ?_
 refine Ev.bind g1 ?_
 refine Ev.bind c1 ?_
 exact Ev.const rfl
theorem IM (l m:List Int) (k:Nat) (h:k<l.length):rd (l++m) (k:Int)=rd l (k:Int):=by
 rw[kE _ _ (by simp;omega),kE _ _ h,List.getElem_append_left h]
theorem IH (l m:List Int) (j:Nat) (h:j<m.length):rd (l++m) ((l.length+j:Nat):Int)=rd m (j:Int):=by
 rw[kE _ _ (by simp;omega),kE _ _ h,List.getElem_append_right (by omega)]
 simp
theorem Fh (a b:List Int):∀(n d:Nat),d<n->rd (tqT a b n) ((2*d:Nat):Int)=2*rd a (d:Int)/\rd (tqT a b n) ((2*d+1:Nat):Int)=2*rd b (d:Int)+1
 |n+1,d,h=>by
  have hl:=Fy a b n
  simp only[tqT]
  by_cases z:d<n
  · obtain⟨i1,i2⟩:=Fh a b n d z
    rw[IM _ _ _ (by omega),IM _ _ _ (by omega)]
    exact⟨i1,i2⟩
  · have:d=n:=by omega
    subst this
    have e0:=IH (tqT a b d) [2*rd a (d:Int),2*rd b (d:Int)+1] 0 (by simp)
    have e1:=IH (tqT a b d) [2*rd a (d:Int),2*rd b (d:Int)+1] 1 (by simp)
    rw[hl]at e0 e1
    exact⟨e0,e1⟩
theorem tu:∀(n d:Nat),d<n->rd (tqF n) ((2*d:Nat):Int)=((2*d+1:Nat):Int)/\rd (tqF n) ((2*d+1:Nat):Int)=((2*d:Nat):Int)
 |n+1,d,h=>by
  have hl:=FH n
  simp only[tqF]
  by_cases z:d<n
  · obtain⟨i1,i2⟩:=tu n d z
    rw[IM _ _ _ (by omega),IM _ _ _ (by omega)]
    exact⟨i1,i2⟩
  · have:d=n:=by omega
    subst this
    have e0:=IH (tqF d) [2*(d:Int)+1,2*(d:Int)] 0 (by simp)
    have e1:=IH (tqF d) [2*(d:Int)+1,2*(d:Int)] 1 (by simp)
    rw[hl]at e0 e1
    refine⟨e0.trans ?_,e1.trans ?_⟩
    · show 2*(d:Int)+1=_
      omega
    · show 2*(d:Int)=_
      omega
def QOk (t f b:List Int) (n:Nat):Prop:=jO t f n/\n<=6/\inR n b/\(∀d:Nat,d<n->rd b (rd t (rd f (d:Int)))=d)/\∀d:Nat,d<n->rd t (rd f (rd b (d:Int)))=d
theorem Xf (t f:List Int) (n:Nat) (H:jO t f n) (h6:n<=6):QOk t f (fM (bX f t n) n n) n:=by
 obtain⟨hn,h1,ht,hti,hf,hfl,hcon⟩:=id H
 have hm:=qW n f t hf ht
 have inj:fK n (bX f t n):=fun i j hi hj e=>by
  rw[mI f t n i hi,mI f t n j hj]at e
  have ri:=hf.2 i hi
  have rj:=hf.2 j hj
  have e2:(rd f (i:Int)).toNat=(rd f (j:Int)).toNat:=hti _ _ (by omega) (by omega) (by rw[show(((rd f (i:Int)).toNat:Nat):Int)=rd f (i:Int) by omega,show(((rd f (j:Int)).toNat:Nat):Int)=rd f (j:Int) by omega];exact e)
  have e3:rd f (i:Int)=rd f (j:Int):=by omega
  have f1:=(hfl i hi).2
  have f2:=(hfl j hj).2
  rw[e3,f2]at f1
  omega
 have hb:=yE (bX f t n) n
 have back:∀d:Nat,d<n->rd (fM (bX f t n) n n) (rd t (rd f (d:Int)))=d:=fun d hd=>by
  have:=E8 (bX f t n) n hm inj n (Nat.le_refl _) d hd
  rwa [mI f t n d hd]at this
 refine⟨H,h6,hb,back,fun d hd=>?_⟩
 obtain⟨m,_,h2⟩:=FN (bX f t n) n hm inj d (by omega)
 have hin:=sJ (bX f t n) n hm m d (by omega)
 rw[wY]at h2
 have h2:rd (bX f t n) (itr (bX f t n) m d)=d:=h2
 have ex:(((itr (bX f t n) m d).toNat:Nat):Int)=itr (bX f t n) m d:=by omega
 have hm2:=mI f t n (itr (bX f t n) m d).toNat (by omega)
 rw[ex,h2]at hm2
 have hb2:=back (itr (bX f t n) m d).toNat (by omega)
 rw[ex,<-hm2]at hb2
 rw[hb2,<-hm2]
theorem QOk.num {t f b:List Int} {n:Nat} (Q:QOk t f b n):∃τ φ β:Nat->Nat,(∀d:Nat,d<n->rd t (d:Int)=(τ d:Int)/\τ d<n)/\(∀d:Nat,d<n->rd f (d:Int)=(φ d:Int)/\φ d<n)/\(∀d:Nat,d<n->rd b (d:Int)=(β d:Int)/\β d<n)/\
 (∀d,d<n->φ (φ d)=d)/\(∀d,d<n->φ d≠d)/\(∀d,d<n->β (τ d)=φ d)/\(∀d,d<n->τ (φ (β d))=d)/\(∀d e,d<n->e<n->τ d=τ e->d=e)/\(∀d e,d<n->e<n->β d=β e->d=e):=by
 obtain⟨H,h6,hb,b1,b2⟩:=Q
 obtain⟨hn,h1,ht,hti,hf,hfl,hcon⟩:=id H
 have T:∀d:Nat,d<n->rd t (d:Int)=(((rd t (d:Int)).toNat:Nat):Int)/\(rd t (d:Int)).toNat<n:=fun d hd=>by have:=ht.2 d hd;omega
 have F:∀d:Nat,d<n->rd f (d:Int)=(((rd f (d:Int)).toNat:Nat):Int)/\(rd f (d:Int)).toNat<n:=fun d hd=>by have:=hf.2 d hd;omega
 have B:∀d:Nat,d<n->rd b (d:Int)=(((rd b (d:Int)).toNat:Nat):Int)/\(rd b (d:Int)).toNat<n:=fun d hd=>by have:=hb.2 d hd;omega
 have ff:∀d,d<n->(rd f (((rd f (d:Int)).toNat:Nat):Int)).toNat=d:=fun d hd=>by
  rw[<-(F d hd).1,(hfl d hd).2,Int.toNat_natCast]
 refine⟨fun d=>(rd t (d:Int)).toNat,fun d=>(rd f (d:Int)).toNat,fun d=>(rd b (d:Int)).toNat,T,F,B,ff,fun d hd e=>?_,fun d hd=>?_,fun d hd=>?_,fun d e hd he h=>?_,fun d e hd he h=>?_⟩
 · have e:(rd f (d:Int)).toNat=d:=e
   have:=(hfl d hd).1
   have:=(F d hd).1
   omega
 · show(rd b (((rd t (d:Int)).toNat:Nat):Int)).toNat=(rd f (d:Int)).toNat
   have:=b1 (rd f (d:Int)).toNat (F d hd).2
   rw[<-(F d hd).1,(hfl d hd).2]at this
   rw[<-(T d hd).1,this]
 · show(rd t (((rd f (((rd b (d:Int)).toNat:Nat):Int)).toNat:Nat):Int)).toNat=d
   have q1:=(B d hd).1
   have q2:=(F _ (B d hd).2).1
   rw[<-q1]at q2 ⊢
   rw[<-q2,b2 d hd,Int.toNat_natCast]
 · have h:(rd t (d:Int)).toNat=(rd t (e:Int)).toNat:=h
   exact hti d e hd he (by rw[(T d hd).1,(T e he).1,h])
 · have h:(rd b (d:Int)).toNat=(rd b (e:Int)).toNat:=h
   have x:=b2 d hd
   have y:=b2 e he
   rw[(B d hd).1,h,<-(B e he).1,y]at x
   omega
theorem half (n x:Nat) (hx:x<2*n):∃d,d<n/\(x=2*d\/x=2*d+1):=⟨x/2,by omega,by omega⟩
theorem VX (t f b:List Int) (n:Nat) (Q:QOk t f b n):jO (tqT t b n) (tqF n) (2*n):=by
 obtain⟨τ,φ,β,hτ,hφ,hβ,ff,fn,bt,tfb,ti,bi⟩:=Q.num
 obtain⟨H,h6,hb,b1,b2⟩:=Q
 obtain⟨hn,h1,ht,hti,hf,hfl,hcon⟩:=id H
 have T:∀d:Nat,d<n->rd (tqT t b n) ((2*d:Nat):Int)=((2*τ d:Nat):Int)/\rd (tqT t b n) ((2*d+1:Nat):Int)=((2*β d+1:Nat):Int):=fun d hd=>by
  obtain⟨x,y⟩:=Fh t b n d hd
  rw[x,y,(hτ d hd).1,(hβ d hd).1]
  exact⟨by omega,by omega⟩
 refine⟨by omega,by omega,⟨Fy t b n,fun x hx=>?_⟩,fun x y hx hy e=>?_,⟨FH n,fun x hx=>?_⟩,fun x hx=>?_,fun x y hx hy S hS=>?_⟩
 · obtain⟨d,hd,rfl|rfl⟩:=half n x hx
   ·rw[(T d hd).1];have:=(hτ d hd).2;omega
   ·rw[(T d hd).2];have:=(hβ d hd).2;omega
 · obtain⟨d,hd,rfl|rfl⟩:=half n x hx<;>obtain⟨e',he,rfl|rfl⟩:=half n y hy
   · rw[(T d hd).1,(T e' he).1]at e
     have:=ti d e' hd he (by omega)
     omega
   · rw[(T d hd).1,(T e' he).2]at e
     omega
   · rw[(T d hd).2,(T e' he).1]at e
     omega
   · rw[(T d hd).2,(T e' he).2]at e
     have:=bi d e' hd he (by omega)
     omega
 · obtain⟨d,hd,rfl|rfl⟩:=half n x hx
   ·rw[(tu n d hd).1];omega
   ·rw[(tu n d hd).2];omega
 · obtain⟨d,hd,rfl|rfl⟩:=half n x hx
   · refine⟨by rw[(tu n d hd).1];omega,?_⟩
     rw[(tu n d hd).1,(tu n d hd).2]
   · refine⟨by rw[(tu n d hd).2];omega,?_⟩
     rw[(tu n d hd).2,(tu n d hd).1]
 · have hT:∀k:Nat,k<2*n->(S k↔S (rd (tqT t b n) (k:Int)).toNat):=hS _ (by simp)
   have hF:∀k:Nat,k<2*n->(S k↔S (rd (tqF n) (k:Int)).toNat):=hS _ (by simp)
   have s1:∀d:Nat,d<n->(S (2*d)↔S (2*τ d)):=fun d hd=>by
    have:=hT (2*d) (by omega)
    rwa [(T d hd).1,Int.toNat_natCast]at this
   have s2:∀d:Nat,d<n->(S (2*d)↔S (2*d+1)):=fun d hd=>by
    have:=hF (2*d) (by omega)
    rwa [(tu n d hd).1,Int.toNat_natCast]at this
   have s3:∀d:Nat,d<n->(S (2*d)↔S (2*β d)):=fun d hd=>by
    have:=hT (2*d+1) (by omega)
    rw[(T d hd).2,Int.toNat_natCast]at this
    rw[s2 d hd,this,<-s2 _ (hβ d hd).2]
   have s4:∀d:Nat,d<n->(S (2*d)↔S (2*φ d)):=fun d hd=>by
    rw[s1 d hd,s3 _ (hτ d hd).2,bt d hd]
   have all:∀d e:Nat,d<n->e<n->(S (2*d)↔S (2*e)):=fun d e hd he=>by
    refine hcon d e hd he (fun z=>S (2*z)) fun p hp k hk=>?_
    rcases List.mem_cons.1 hp with rfl|hp
    · rw[(hτ k hk).1,Int.toNat_natCast]
      exact s1 k hk
    · rw[List.mem_singleton.1 hp,(hφ k hk).1,Int.toNat_natCast]
      exact s4 k hk
   obtain⟨d,hd,rfl|rfl⟩:=half n x hx<;>obtain⟨e',he,rfl|rfl⟩:=half n y hy
   ·exact all d e' hd he
   ·rw[all d e' hd he,s2 e' he]
   ·rw[<-s2 d hd,all d e' hd he]
   ·rw[<-s2 d hd,all d e' hd he,s2 e' he]
theorem agd (t f b:List Int) (n:Nat) (Q:QOk t f b n):(cyS (tqT t b n) (2*n) (2*n)).2.length=(cyS t n n).2.length+(cyS (bX f t n) n n).2.length:=by
 have O:=VX t f b n Q
 obtain⟨on,o1,oT,oi,oF,ofl,ocon⟩:=id O
 obtain⟨τ,φ,β,hτ,hφ,hβ,ff,fn,bt,tfb,ti,bi⟩:=Q.num
 obtain⟨H,h6,hb,b1,b2⟩:=id Q
 obtain⟨hn,h1,ht,hti,hf,hfl,hcon⟩:=id H
 have T:∀d:Nat,d<n->rd (tqT t b n) ((2*d:Nat):Int)=((2*τ d:Nat):Int)/\rd (tqT t b n) ((2*d+1:Nat):Int)=((2*β d+1:Nat):Int):=fun d hd=>by
  obtain⟨x,y⟩:=Fh t b n d hd
  rw[x,y,(hτ d hd).1,(hβ d hd).1]
  exact⟨by omega,by omega⟩
 have mi:fK n (bX f t n):=fun i j hi hj e=>by
  rw[mI f t n i hi,mI f t n j hj,(hφ i hi).1,(hφ j hj).1,(hτ _ (hφ i hi).2).1,(hτ _ (hφ j hj).2).1]at e
  have:=ti _ _ (hφ i hi).2 (hφ j hj).2 (by omega)
  have e1:=ff i hi
  rw[this,ff j hj]at e1
  exact e1.symm
 have cT:=Fc (tqT t b n) (2*n) oT oi
 obtain⟨L1,p1,p2,p3⟩:=Fc t n ht hti
 obtain⟨L2,q1,q2,q3⟩:=Fc (bX f t n) n (qW n f t hf ht) mi
 have ev1:∀x y,x<n->y<n->(Reach [tqT t b n] (2*n) (2*x) (2*y)↔Reach [t] n x y):=by
  intro x y hx hy
  constructor
  · intro h S hS
    have:=h (fun z=>z%2=0/\S (z/2)) (fun p hp k hk=>by
     rw[List.mem_singleton.1 hp]
     obtain⟨d,hd,rfl|rfl⟩:=half n k hk
     · rw[(T d hd).1,Int.toNat_natCast]
       have:=hS t (by simp) d hd
       rw[(hτ d hd).1,Int.toNat_natCast]at this
       show(2*d%2=0/\S (2*d/2))↔(2*τ d%2=0/\S (2*τ d/2))
       rw[show 2*d/2=d by omega,show 2*τ d/2=τ d by omega]
       constructor
       ·rintro⟨_,q⟩;exact⟨by omega,this.1 q⟩
       ·rintro⟨_,q⟩;exact⟨by omega,this.2 q⟩
     · rw[(T d hd).2,Int.toNat_natCast]
       constructor
       ·rintro⟨q,_⟩;omega
       ·rintro⟨q,_⟩;omega)
    rw[show 2*x/2=x by omega,show 2*y/2=y by omega]at this
    constructor
    ·intro q;exact(this.1 ⟨by omega,q⟩).2
    ·intro q;exact(this.2 ⟨by omega,q⟩).2
  · intro h S hS
    exact h (fun z=>S (2*z)) fun p hp k hk=>by
     rw[List.mem_singleton.1 hp,(hτ k hk).1,Int.toNat_natCast]
     have:=hS (tqT t b n) (by simp) (2*k) (by omega)
     rwa [(T k hk).1,Int.toNat_natCast]at this
 have ev2:∀x y,x<n->y<n->(Reach [tqT t b n] (2*n) (2*x+1) (2*y+1)↔Reach [bX f t n] n x y):=by
  intro x y hx hy
  have fac:∀(S:Nat->Prop),(∀d,d<n->(S d↔S (β d)))↔wZ [bX f t n] n S:=by
   intro S
   constructor
   · intro h p hp k hk
     rw[List.mem_singleton.1 hp,mI f t n k hk,(hφ k hk).1,(hτ _ (hφ k hk).2).1,Int.toNat_natCast]
     have:=h _ (hτ _ (hφ k hk).2).2
     rw[bt _ (hφ k hk).2,ff k hk]at this
     exact this.symm
   · intro h d hd
     have:=h (bX f t n) (by simp) (β d) (hβ d hd).2
     rw[mI f t n _ (hβ d hd).2,(hφ _ (hβ d hd).2).1,(hτ _ (hφ _ (hβ d hd).2).2).1,Int.toNat_natCast,tfb d hd]at this
     exact this.symm
  constructor
  · intro h S hS
    have hS':=(fac S).2 hS
    have:=h (fun z=>z%2=1/\S (z/2)) (fun p hp k hk=>by
     rw[List.mem_singleton.1 hp]
     obtain⟨d,hd,rfl|rfl⟩:=half n k hk
     · rw[(T d hd).1,Int.toNat_natCast]
       constructor
       ·rintro⟨q,_⟩;omega
       ·rintro⟨q,_⟩;omega
     · rw[(T d hd).2,Int.toNat_natCast]
       show((2*d+1)%2=1/\S ((2*d+1)/2))↔((2*β d+1)%2=1/\S ((2*β d+1)/2))
       rw[show(2*d+1)/2=d by omega,show(2*β d+1)/2=β d by omega]
       constructor
       ·rintro⟨_,q⟩;exact⟨by omega,(hS' d hd).1 q⟩
       ·rintro⟨_,q⟩;exact⟨by omega,(hS' d hd).2 q⟩)
    rw[show(2*x+1)/2=x by omega,show(2*y+1)/2=y by omega]at this
    constructor
    ·intro q;exact(this.1 ⟨by omega,q⟩).2
    ·intro q;exact(this.2 ⟨by omega,q⟩).2
  · intro h S hS
    exact h (fun z=>S (2*z+1)) ((fac _).1 fun d hd=>by
     have:=hS (tqT t b n) (by simp) (2*d+1) (by omega)
     rwa [(T d hd).2,Int.toNat_natCast]at this)
 have ev3:∀x y,x%2≠y%2->¬Reach [tqT t b n] (2*n) x y:=by
  intro x y hxy h
  have:=(h (fun z=>z%2=x%2) (fun p hp k hk=>by
   rw[List.mem_singleton.1 hp]
   obtain⟨d,hd,rfl|rfl⟩:=half n k hk
   ·rw[(T d hd).1,Int.toNat_natCast];omega
   ·rw[(T d hd).2,Int.toNat_natCast];omega)).1 rfl
  omega
 have C:Cl (2*n) (Reach [tqT t b n] (2*n)) (L1.length+L2.length):=by
  refine⟨L1.map (fun x=>2*x)++L2.map (fun x=>2*x+1),?_,fun x=>?_,by simp⟩
  · refine List.pairwise_append.2 ⟨List.pairwise_map.2 (p1.imp fun h e=>h (by omega)),List.pairwise_map.2 (q1.imp fun h e=>h (by omega)),fun x hx y hy e=>?_⟩
    obtain⟨u,_,rfl⟩:=List.mem_map.1 hx
    obtain⟨v,_,rfl⟩:=List.mem_map.1 hy
    omega
  · rw[List.mem_append,List.mem_map,List.mem_map]
    constructor
    · rintro(⟨u,hu,rfl⟩|⟨u,hu,rfl⟩)
      · obtain⟨u1,u2⟩:=(p2 u).1 hu
        refine⟨by omega,fun i hi hr=>?_⟩
        by_cases z:i%2=0
        · have e:i=2*(i/2):=by omega
          rw[e]at hr
          exact u2 (i/2) (by omega) ((ev1 _ _ (by omega) u1).1 hr)
        ·exact ev3 _ _ (by omega) hr
      · obtain⟨u1,u2⟩:=(q2 u).1 hu
        refine⟨by omega,fun i hi hr=>?_⟩
        by_cases z:i%2=1
        · have e:i=2*(i/2)+1:=by omega
          rw[e]at hr
          exact u2 (i/2) (by omega) ((ev2 _ _ (by omega) u1).1 hr)
        ·exact ev3 _ _ (by omega) hr
    · rintro⟨hx,hl⟩
      obtain⟨d,hd,rfl|rfl⟩:=half n x hx
      ·exact .inl ⟨d,(p2 d).2 ⟨hd,fun i hi hr=>hl (2*i) (by omega) ((ev1 i d (by omega) hd).2 hr)⟩,rfl⟩
      ·exact .inr ⟨d,(q2 d).2 ⟨hd,fun i hi hr=>hl (2*i+1) (by omega) ((ev2 i d (by omega) hd).2 hr)⟩,rfl⟩
 rw[cT.uniq C,p3,q3]
theorem XZ (p:List Int) (n:Nat) (hp:inR n p):∀(f:Nat) (s:List Bool) (c:List Int) (a:Int),s.length=n->0<=a->a<n->fresh s<f->
 ∃m,(cw p f s c a).2=c++(List.range m).map (fun k=>itr p k a)/\(∀k,k<m->gH false s (itr p k a)=false)/\(∀i j,i<j->j<m->itr p i a≠itr p j a)/\(gH false s (itr p m a)=true\/∃k,k<m/\itr p m a=itr p k a)
 |0,s,c,a,hs,h0,h1,hf=>absurd hf (Nat.not_lt_zero _)
 |f+1,s,c,a,hs,h0,h1,hf=>by
  simp only[cw]
  by_cases e:gH false s a=true
  · rw[if_pos e]
    exact⟨0,by simp,fun k hk=>absurd hk (by omega),fun i j _ hj=>absurd hj (by omega),.inl e⟩
  · rw[if_neg e]
    have e0:gH false s a=false:=by simpa using e
    have e1:s.getD a.toNat false=false:=by rw[<-sC s a h0];exact e0
    have fr:=Ax s a.toNat (by omega) e1
    have pr:=hp.2 a.toNat (by omega)
    have ea:((a.toNat:Nat):Int)=a:=by omega
    rw[ea]at pr
    obtain⟨m,m1,m2,m3,m4⟩:=XZ p n hp f (s.set a.toNat true) (c++[a]) (rd p a) (by simpa using hs) pr.1 pr.2 (by omega)
    have look:∀k,gH false (s.set a.toNat true) (itr p k (rd p a))=if a=itr p k (rd p a)then true else gH false s (itr p k (rd p a)):=fun k=>by
     have r:=sJ p n hp k _ pr
     rw[sC _ _ r.1,sC _ _ r.1,Df _ _ _ _ (by omega)]
     by_cases q:a=itr p k (rd p a)
     ·rw[if_pos q,if_pos (by omega)]
     ·rw[if_neg q,if_neg (by omega)]
    refine⟨m+1,?_,fun k hk=>?_,fun i j hij hj=>?_,?_⟩
    · rw[m1,List.range_succ_eq_map,List.map_cons,List.map_map,List.append_assoc]
      rfl
    · cases k with
      |zero=>exact e0
      |succ k=>
       have:=m2 k (by omega)
       rw[look k]at this
       show gH false s (itr p k (rd p a))=false
       by_cases q:a=itr p k (rd p a)
       ·rw[if_pos q]at this;cases this
       ·rw[if_neg q]at this;exact this
    · obtain⟨j,rfl⟩:∃j',j=j'+1:=⟨j-1,by omega⟩
      cases i with
      |zero=>
       have:=m2 j (by omega)
       rw[look j]at this
       intro q
       rw[if_pos (show a=itr p j (rd p a)from q)]at this
       cases this
      |succ i=>exact m3 i j (by omega) (by omega)
    · rcases m4 with h|⟨k,hk,h⟩
      · rw[look m]at h
        by_cases q:a=itr p m (rd p a)
        ·exact .inr ⟨0,by omega,q.symm⟩
        · rw[if_neg q]at h
          exact .inl h
      ·exact .inr ⟨k+1,by omega,h⟩
theorem NK (p:List Int) (n:Nat) (hp:inR n p) (hi:fK n p):∀i,i<=n->∀l∈(cyS p n i).2,∃a:Nat,a<n/\l=(List.range l.length).map (fun k=>itr p k (a:Int))/\itr p l.length (a:Int)=a/\∀i j,i<j->j<l.length->itr p i (a:Int)≠itr p j (a:Int)
 |0,_,l,hl=>by simp[cyS]at hl
 |i+1,h,l,hl=>by
  have ih:=NK p n hp hi i (by omega)
  have len:=vH p n i
  have fl:=C2 (cyS p n i).1
  obtain⟨m,m1,m2,m3,m4⟩:=XZ p n hp (n+1) (cyS p n i).1 [] (i:Int) len (by omega) (by omega) (by omega)
  rw[List.nil_append]at m1
  simp only[cyS]at hl
  by_cases e:(cw p (n+1) (cyS p n i).1 [] (i:Int)).2=[]
  · rw[if_pos e]at hl
    exact ih l hl
  · rw[if_neg e]at hl
    rcases List.mem_append.1 hl with hl|hl
    ·exact ih l hl
    · have el:=List.mem_singleton.1 hl
      have ell:l.length=m:=by rw[el,m1];simp
      have mp:0<m:=by
       rcases Nat.eq_zero_or_pos m with z|z
       ·exact absurd (by rw[m1,z];rfl) e
       ·exact z
      refine⟨i,by omega,by rw[ell,<-m1,<-el],?_,fun x y hxy hy=>m3 x y hxy (by omega)⟩
      rw[ell]
      have ii:(0:Int)<=(i:Int)/\(i:Int)<n:=by omega
      rcases m4 with h4|⟨k,hk,h4⟩
      · exfalso
        have r:=sJ p n hp m (i:Int) ii
        rw[sC _ _ r.1]at h4
        obtain⟨j,j1,j2⟩:=(yT p n hp hi i (by omega) _ (by omega)).1 h4
        have z:=XX [p] p n hp (by simp) m (i:Int) ii
        rw[Int.toNat_natCast]at z
        have:=(yT p n hp hi i (by omega) i (by omega)).2 ⟨j,j1,j2.trans z.symm⟩
        have q:=m2 0 mp
        rw[show itr p 0 (i:Int)=i from rfl,sC _ _ (by omega),Int.toNat_natCast,this]at q
        cases q
      · rw[show m=(m-k)+k by omega,wY]at h4
        have h5:=IX p n hp hi k _ _ (sJ p n hp (m-k) (i:Int) ii) ii h4
        by_cases k0:k=0
        ·subst k0;exact h5
        ·exact absurd h5.symm (m3 0 (m-k) (by omega) (by omega))
theorem agX (p:List Int) (n:Nat) (hp:inR n p) (hi:fK n p) (x:Nat) (hx:x<n):∃l∈(cyS p n n).2,(x:Int)∈l:=by
 obtain⟨reps,r1,r2,r3,r4⟩:=IY p n hp hi n (Nat.le_refl _)
 obtain⟨y,y1,y2,y3⟩:=Jo (Reach [p] n) (fun x=>Reach.refl _ _ x) (fun _ _ h=>h.symm) (fun _ _ _ h h'=>h.trans h') x
 obtain⟨q,hq,e⟩:=List.mem_iff_getElem.1 ((r3 y).2 ⟨by omega,y2⟩)
 have:=(r4 q hq x hx).2 (by rw[e];exact y3)
 have hq':q<(cyS p n n).2.length:=by omega
 have el:d7 (cyS p n n).2 (q:Int)=(cyS p n n).2[q]:=by
  unfold d7
  rw[Int.toNat_natCast]
  simp[List.getD,hq']
 rw[el]at this
 exact⟨_,List.getElem_mem hq',this⟩
theorem V1 (p:List Int) (n:Nat) (hp:inR n p) (hi:fK n p) (h4:∀l∈(cyS p n n).2,l.length=4):
 (∀l∈(cyS p n n).2,∃a:Nat,a<n/\l=[(a:Int),rd p a,rd p (rd p a),rd p (rd p (rd p a))])/\
 ∀x:Nat,x<n->rd p (rd p (rd p (rd p (x:Int))))=x/\rd p (x:Int)≠x/\rd p (rd p (x:Int))≠x/\rd p (rd p (rd p (x:Int)))≠x:=by
 constructor
 · intro l hl
   obtain⟨a,a1,a2,_,_⟩:=NK p n hp hi n (Nat.le_refl _) l hl
   refine⟨a,a1,?_⟩
   rw[a2,h4 l hl]
   rfl
 · intro x hx
   obtain⟨l,hl,hxl⟩:=agX p n hp hi x hx
   obtain⟨a,a1,a2,a3,a4⟩:=NK p n hp hi n (Nat.le_refl _) l hl
   rw[a2]at hxl
   obtain⟨k,hk,ek⟩:=List.mem_map.1 hxl
   have hk:=List.mem_range.1 hk
   rw[h4 l hl]at a3 hk
   have aa:(0:Int)<=(a:Int)/\(a:Int)<n:=by omega
   have com:∀m,itr p m (x:Int)=itr p k (itr p m (a:Int)):=fun m=>by rw[<-ek,<-wY,<-wY,Nat.add_comm]
   have ne:∀m,0<m->m<4->itr p m (x:Int)≠x:=fun m m0 m1 e=>by
    rw[com m,<-ek]at e
    exact a4 0 m m0 (by rw[h4 l hl];exact m1) (IX p n hp hi k _ _ (sJ p n hp m _ aa) aa e).symm
   refine⟨?_,ne 1 (by omega) (by omega),ne 2 (by omega) (by omega),ne 3 (by omega) (by omega)⟩
   have:=com 4
   rw[a3,ek]at this
   exact this
def evn (g:List Int) (d:Nat):Prop:=Int.tmod (rd g (d:Int)) 2=0
instance (g:List Int) (d:Nat):Decidable (evn g d):=inferInstanceAs (Decidable (_=_))
theorem Oe {g:List Int} {d:Nat} (h:evn g d):nmE g (d+1)=nmE g d+1:=by
 have h:Int.tmod (rd g (d:Int)) 2=0:=h
 simp only[nmE,h,if_true]
theorem WE {g:List Int} {d:Nat} (h:¬evn g d):nmE g (d+1)=nmE g d:=by
 have h:¬Int.tmod (rd g (d:Int)) 2=0:=h
 simp only[nmE,h,if_false]
theorem vP {g:List Int} {d i:Nat} (h:evn g d) (hd:d<i):nmE g d<nmE g i:=by
 have:=MQ g (d+1) (i-(d+1))
 rw[show d+1+(i-(d+1))=i by omega,Oe h]at this
 omega
theorem Ng {g:List Int} {d e:Nat} (h:evn g d) (h':evn g e) (q:nmE g d=nmE g e):d=e:=by
 by_cases h1:d<e
 ·have:=vP h h1;omega
 · by_cases h2:e<d
   ·have:=vP h' h2;omega
   ·omega
theorem vJ (g:List Int):∀i k,k<nmE g i->∃d,d<i/\evn g d/\nmE g d=k
 |0,k,h=>absurd h (by simp[nmE])
 |i+1,k,h=>by
  by_cases e:evn g i
  · rw[Oe e]at h
    by_cases q:k=nmE g i
    ·exact⟨i,by omega,e,q.symm⟩
    · obtain⟨d,d1,d2⟩:=vJ g i k (by omega)
      exact⟨d,by omega,d2⟩
  · rw[WE e]at h
    obtain⟨d,d1,d2⟩:=vJ g i k h
    exact⟨d,by omega,d2⟩
theorem W9 (g:List Int):∀i,((List.range i).filter fun d=>decide (evn g d)).length=nmE g i
 |0=>rfl
 |i+1=>by
  rw[List.range_succ,List.filter_append,List.length_append,W9 g i]
  by_cases e:evn g i
  ·rw[Oe e];simp[e]
  ·rw[WE e];simp[e]
theorem Nb (g t nm:List Int):∀i d:Nat,d<i->evn g d->rd (tmA g t nm i) ((nmE g d:Nat):Int)=rd nm (rd t (d:Int))
 |0,d,h,_=>absurd h (by omega)
 |i+1,d,h,e=>by
  by_cases z:evn g i
  · have z':Int.tmod (rd g (i:Int)) 2=0:=z
    simp only[tmA,z',if_true]
    by_cases q:d=i
    · subst q
      have:=Dt (tmA g t nm d) (rd nm (rd t (d:Int)))
      rwa [C3]at this
    · rw[Am _ _ _ (by rw[C3];exact vP e (by omega))]
      exact Nb g t nm i d (by omega) e
  · have z':¬Int.tmod (rd g (i:Int)) 2=0:=z
    simp only[tmA,z',if_false]
    have:d≠i:=fun q=>z (q▸e)
    exact Nb g t nm i d (by omega) e
theorem Nt (g t fc bk nm:List Int):∀i d:Nat,d<i->evn g d->rd (tmB g t fc bk nm i) ((nmE g d:Nat):Int)=tmF t fc bk nm d
 |0,d,h,_=>absurd h (by omega)
 |i+1,d,h,e=>by
  by_cases z:evn g i
  · have z':Int.tmod (rd g (i:Int)) 2=0:=z
    simp only[tmB,z',if_true]
    by_cases q:d=i
    · subst q
      have:=Dt (tmB g t fc bk nm d) (tmF t fc bk nm d)
      rwa [Dy]at this
    · rw[Am _ _ _ (by rw[Dy];exact vP e (by omega))]
      exact Nt g t fc bk nm i d (by omega) e
  · have z':¬Int.tmod (rd g (i:Int)) 2=0:=z
    simp only[tmB,z',if_false]
    have:d≠i:=fun q=>z (q▸e)
    exact Nt g t fc bk nm i d (by omega) e
theorem Jq {f:Nat->Nat}:∀{L:List Nat},L.Nodup->(∀x∈L,∀y∈L,f x=f y->x=y)->(L.map f).Nodup
 |[],_,_=>by simp
 |a::L,h,hf=>by
  rw[List.nodup_cons]at h
  rw[List.map_cons,List.nodup_cons]
  refine⟨fun hm=>?_,Jq h.2 fun x hx y hy=>hf x (by simp[hx]) y (by simp[hy])⟩
  obtain⟨x,hx,e⟩:=List.mem_map.1 hm
  exact h.1 (hf x (by simp[hx]) a (by simp) e▸hx)
theorem agG (L:List Nat) (p:Nat->Bool):(L.filter p).length+(L.filter fun a=>! p a).length=L.length:=by
 induction L with
 |nil=>rfl
 |cons x L ih=>
  simp only[List.filter_cons]
  cases p x<;>simp<;>omega
structure Tq (t f g l':List Int) (n:Nat) (τ φ:Nat->Nat):Prop where
 t1:∀d:Nat,d<n->rd t (d:Int)=(τ d:Int)/\τ d<n
 f1:∀d:Nat,d<n->rd f (d:Int)=(φ d:Int)/\φ d<n
 ti:∀d e,d<n->e<n->τ d=τ e->d=e
 ff:∀d,d<n->φ (φ d)=d
 et:∀d,d<n->(evn g (τ d)↔evn g d)
 ef:∀d,d<n->(evn g (φ d)↔¬evn g d)
 four:∀d,d<n->τ (φ (τ (φ (τ (φ (τ (φ d)))))))=d
 two:∀d,d<n->τ (φ (τ (φ d)))≠d
theorem ahU (t f g l':List Int) (n:Nat) (H:jO t f n) (h4:∀l∈(cyS (bX f t n) n n).2,l.length=4) (a:Nat) (hg:lG t f n a g) (hpar:∀x:Nat,x<n->¬Int.tmod (rd g (x:Int)) 2=Int.tmod (rd g (rd f (x:Int))) 2):
 Tq t f g l' n (fun d=>(rd t (d:Int)).toNat) (fun d=>(rd f (d:Int)).toNat):=by
 obtain⟨hn,h1,ht,hti,hf,hfl,hcon⟩:=id H
 have T:∀d:Nat,d<n->rd t (d:Int)=(((rd t (d:Int)).toNat:Nat):Int)/\(rd t (d:Int)).toNat<n:=fun d hd=>by have:=ht.2 d hd;omega
 have F:∀d:Nat,d<n->rd f (d:Int)=(((rd f (d:Int)).toNat:Nat):Int)/\(rd f (d:Int)).toNat<n:=fun d hd=>by have:=hf.2 d hd;omega
 have pin:=qW n f t hf ht
 have inj:fK n (bX f t n):=fun i j hi hj e=>by
  rw[mI f t n i hi,mI f t n j hj,(F i hi).1,(F j hj).1]at e
  have e2:=hti _ _ (F i hi).2 (F j hj).2 e
  have a1:=(hfl i hi).2
  have a2:=(hfl j hj).2
  rw[(F i hi).1,e2,<-(F j hj).1,a2]at a1
  omega
 obtain⟨_,hp⟩:=V1 _ n pin inj h4
 have st:∀d:Nat,d<n->rd (bX f t n) (d:Int)=(((rd t (((rd f (d:Int)).toNat:Nat):Int)).toNat:Nat):Int)/\(rd t (((rd f (d:Int)).toNat:Nat):Int)).toNat<n:=fun d hd=>by
  rw[mI f t n d hd]
  have:=T _ (F d hd).2
  refine⟨?_,this.2⟩
  rw[(F d hd).1]
  exact this.1
 have par:∀x:Nat,x<n->Int.tmod (rd g (x:Int)) 2=0\/Int.tmod (rd g (x:Int)) 2=1:=fun x hx=>by rw[Int.tmod_eq_emod_of_nonneg (hg.rng x hx).1];omega
 refine⟨T,F,fun d e hd he h=>?_,fun d hd=>?_,fun d hd=>?_,fun d hd=>?_,fun d hd=>?_,fun d hd h=>?_⟩
 ·exact hti d e hd he (by rw[(T d hd).1,(T e he).1,show(rd t (d:Int)).toNat=(rd t (e:Int)).toNat from h])
 · show(rd f (((rd f (d:Int)).toNat:Nat):Int)).toNat=d
   rw[<-(F d hd).1,(hfl d hd).2,Int.toNat_natCast]
 · show Int.tmod (rd g (((rd t (d:Int)).toNat:Nat):Int)) 2=0↔_
   rw[<-(T d hd).1,hg.turn d hd]
   exact Iff.rfl
 · show Int.tmod (rd g (((rd f (d:Int)).toNat:Nat):Int)) 2=0↔¬Int.tmod (rd g (d:Int)) 2=0
   have a1:=hpar d hd
   have a2:=par d hd
   have a3:=par _ (F d hd).2
   rw[<-(F d hd).1]at a3 ⊢
   omega
 · have:=(hp d hd).1
   rw[(st d hd).1,(st _ (st d hd).2).1,(st _ (st _ (st d hd).2).2).1,(st _ (st _ (st _ (st d hd).2).2).2).1]at this
   exact Int.ofNat.inj this
 · have:=(hp d hd).2.2.1
   rw[(st d hd).1,(st _ (st d hd).2).1]at this
   exact this (by rw[show(rd t (((rd f (((rd t (((rd f (d:Int)).toNat:Nat):Int)).toNat:Nat):Int)).toNat:Nat):Int)).toNat=d from h])
section
variable {t f g l':List Int} {n:Nat} {τ φ:Nat->Nat} (Q:Tq t f g l' n τ φ)
include Q
theorem Tq.half:2*nmE g n=n:=by
 have e0:=W9 g n
 have nd:((List.range n).filter fun d=>decide (evn g d)).Nodup:=List.nodup_range.filter _
 have nu:((List.range n).filter fun d=>! decide (evn g d)).Nodup:=List.nodup_range.filter _
 have m1:∀x,x∈(List.range n).filter (fun d=>decide (evn g d))↔x<n/\evn g x:=fun x=>by rw[List.mem_filter,List.mem_range,decide_eq_true_eq]
 have m2:∀x,x∈(List.range n).filter (fun d=>! decide (evn g d))↔x<n/\¬evn g x:=fun x=>by
  rw[List.mem_filter,List.mem_range,Bool.not_eq_true',decide_eq_false_iff_not]
 have i1:=vF (((List.range n).filter fun d=>decide (evn g d)).map φ) _ (Jq nd fun x hx y hy e=>by
  rw[<-Q.ff x ((m1 x).1 hx).1,e,Q.ff y ((m1 y).1 hy).1]) fun x hx=>by
  obtain⟨y,hy,rfl⟩:=List.mem_map.1 hx
  obtain⟨h1,h2⟩:=(m1 y).1 hy
  exact(m2 _).2 ⟨(Q.f1 y h1).2,fun z=>(Q.ef y h1).1 z h2⟩
 have i2:=vF (((List.range n).filter fun d=>! decide (evn g d)).map φ) _ (Jq nu fun x hx y hy e=>by
  rw[<-Q.ff x ((m2 x).1 hx).1,e,Q.ff y ((m2 y).1 hy).1]) fun x hx=>by
  obtain⟨y,hy,rfl⟩:=List.mem_map.1 hx
  obtain⟨h1,h2⟩:=(m2 y).1 hy
  exact(m1 _).2 ⟨(Q.f1 y h1).2,(Q.ef y h1).2 h2⟩
 rw[List.length_map]at i1 i2
 have:=agG (List.range n) fun d=>decide (evn g d)
 rw[List.length_range]at this
 omega
variable (H:jO t f n) (hl:∀z:Nat,z<n->rd l' (z:Int)=((nmE g z:Nat):Int))
include H hl
theorem Tq.vals {d:Nat} (hd:d<n) (e:evn g d):rd (tmA g t l' n) ((nmE g d:Nat):Int)=((nmE g (τ d):Nat):Int)/\rd (tmB g t (bX f t n) (fM t n n) l' n) ((nmE g d:Nat):Int)=((nmE g (φ (τ (φ (τ d)))):Nat):Int):=by
 obtain⟨hn,h1,ht,hti,hf,hfl,hcon⟩:=id H
 have a1:=(Q.t1 d hd).2
 have a2:=(Q.f1 _ a1).2
 have a3:=(Q.t1 _ a2).2
 have a4:=(Q.f1 _ a3).2
 have a5:=(Q.t1 _ a4).2
 refine⟨by rw[Nb g t l' n d hd e,(Q.t1 d hd).1,hl _ a1],?_⟩
 rw[Nt g t _ _ l' n d hd e]
 unfold tmF
 rw[(Q.t1 d hd).1,mI f t n _ a1,(Q.f1 _ a1).1,(Q.t1 _ a2).1,mI f t n _ a3,(Q.f1 _ a3).1,E8 t n ht hti n (Nat.le_refl _) _ a4,hl _ a4]
theorem Tq.VI:jO (tmA g t l' n) (tmB g t (bX f t n) (fM t n n) l' n) (nmE g n):=by
 obtain⟨hn,h1,ht,hti,hf,hfl,hcon⟩:=id H
 have hh:=Q.half
 have V:=fun(d:Nat) (hd:d<n) (e:evn g d)=>Q.vals H hl hd e
 have et4:∀d,d<n->evn g d->φ (τ (φ (τ d)))<n/\evn g (φ (τ (φ (τ d)))):=fun d hd e=>by
  have a1:=(Q.t1 d hd).2
  have a2:=(Q.f1 _ a1).2
  have a3:=(Q.t1 _ a2).2
  have a4:=(Q.f1 _ a3).2
  refine⟨a4,(Q.ef _ a3).2 fun z=>?_⟩
  exact(Q.ef _ a1).1 ((Q.et _ a2).1 z) ((Q.et d hd).2 e)
 have four':∀d,d<n->φ (τ (φ (τ (φ (τ (φ (τ d)))))))=d:=fun d hd=>by
  have a1:=(Q.t1 d hd).2
  have:=Q.four _ a1
  have b1:=(Q.f1 _ a1).2
  have b2:=(Q.t1 _ b1).2
  have b3:=(Q.f1 _ b2).2
  have b4:=(Q.t1 _ b3).2
  have b5:=(Q.f1 _ b4).2
  have b6:=(Q.t1 _ b5).2
  have b7:=(Q.f1 _ b6).2
  exact Q.ti _ _ b7 hd this
 refine⟨by omega,by omega,⟨C3 g t l' n,fun i hi=>?_⟩,fun i j hi hj e=>?_,⟨Dy g t _ _ l' n,fun i hi=>?_⟩,fun i hi=>?_,fun i j hi hj S hS=>?_⟩
 · obtain⟨d,d1,d2,rfl⟩:=vJ g n i hi
   have a1:=(Q.t1 d d1).2
   have:=vP ((Q.et d d1).2 d2) a1
   rw[(V d d1 d2).1]
   omega
 · obtain⟨d,d1,d2,rfl⟩:=vJ g n i hi
   obtain⟨c,c1,c2,rfl⟩:=vJ g n j hj
   rw[(V d d1 d2).1,(V c c1 c2).1]at e
   have:=Ng ((Q.et d d1).2 d2) ((Q.et c c1).2 c2) (by omega)
   rw[Q.ti d c d1 c1 this]
 · obtain⟨d,d1,d2,rfl⟩:=vJ g n i hi
   obtain⟨e1,e2⟩:=et4 d d1 d2
   have:=vP e2 e1
   rw[(V d d1 d2).2]
   omega
 · obtain⟨d,d1,d2,rfl⟩:=vJ g n i hi
   obtain⟨e1,e2⟩:=et4 d d1 d2
   refine⟨?_,?_⟩
   · rw[(V d d1 d2).2]
     intro z
     have z:=Ng e2 d2 (by omega)
     have a1:=(Q.t1 d d1).2
     have:=Q.two _ a1
     rw[z]at this
     exact this rfl
   ·rw[(V d d1 d2).2,(V _ e1 e2).2,four' d d1]
 · obtain⟨d,d1,d2,rfl⟩:=vJ g n i hi
   obtain⟨c,c1,c2,rfl⟩:=vJ g n j hj
   have sT:∀x,x<n->evn g x->(S (nmE g x)↔S (nmE g (τ x))):=fun x hx e=>by
    have:=hS _ (List.mem_cons_self ..) (nmE g x) (vP e hx)
    rwa [(V x hx e).1,Int.toNat_natCast]at this
   have sF:∀x,x<n->evn g x->(S (nmE g x)↔S (nmE g (φ (τ (φ (τ x)))))):=fun x hx e=>by
    have:=hS _ (List.mem_cons_of_mem _ (List.mem_singleton.2 rfl)) (nmE g x) (vP e hx)
    rwa [(V x hx e).2,Int.toNat_natCast]at this
   have key:=hcon d c d1 c1 (fun x=>(evn g x->S (nmE g x))/\(¬evn g x->S (nmE g (φ x)))) fun p hp k hk=>by
    rcases List.mem_cons.1 hp with hp|hp
    · rw[hp,(Q.t1 k hk).1,Int.toNat_natCast]
      have a1:=(Q.t1 k hk).2
      have b1:=(Q.f1 k hk).2
      by_cases e:evn g k
      · have e':=(Q.et k hk).2 e
        constructor
        ·exact fun h=>⟨fun _=>(sT k hk e).1 (h.1 e),fun z=>absurd e' z⟩
        ·exact fun h=>⟨fun _=>(sT k hk e).2 (h.1 e'),fun z=>absurd e z⟩
      · have e':¬evn g (τ k):=fun z=>e ((Q.et k hk).1 z)
        have ex:evn g (φ k):=(Q.ef k hk).2 e
        have ey:evn g (φ (τ k)):=(Q.ef _ a1).2 e'
        obtain⟨m,_,m2⟩:=FN t n ht hti (φ k:Nat) (by omega)
        have mi:=sJ t n ht m ((φ k:Nat):Int) (by omega)
        rw[wY]at m2
        have m2:rd t (itr t m ((φ k:Nat):Int))=((φ k:Nat):Int):=m2
        generalize hw:(itr t m ((φ k:Nat):Int)).toNat=w
        have wn:w<n:=by omega
        have ew:((w:Nat):Int)=itr t m ((φ k:Nat):Int):=by omega
        rw[<-ew,(Q.t1 w wn).1]at m2
        have tw:τ w=φ k:=Int.ofNat.inj m2
        have ow:evn g w:=(Q.et w wn).1 (tw▸ex)
        have s1:=sT w wn ow
        have s2:=sF w wn ow
        rw[tw,Q.ff k hk]at s2
        rw[tw]at s1
        constructor
        ·exact fun h=>⟨fun z=>absurd z e',fun _=>s2.1 (s1.2 (h.2 e))⟩
        ·exact fun h=>⟨fun z=>absurd z e,fun _=>s1.1 (s2.2 (h.2 e'))⟩
    · rw[List.mem_singleton.1 hp,(Q.f1 k hk).1,Int.toNat_natCast]
      by_cases e:evn g k
      · have e':¬evn g (φ k):=fun z=>(Q.ef k hk).1 z e
        constructor
        ·exact fun h=>⟨fun z=>absurd z e',fun _=>by rw[Q.ff k hk];exact h.1 e⟩
        ·exact fun h=>⟨fun _=>by have:=h.2 e';rwa [Q.ff k hk]at this,fun z=>absurd e z⟩
      · have e':=(Q.ef k hk).2 e
        exact⟨fun h=>⟨fun _=>h.2 e,fun z=>absurd e' z⟩,fun h=>⟨fun z=>absurd z e,fun _=>h.1 e'⟩⟩
   constructor
   ·exact fun h=>(key.1 ⟨fun _=>h,fun z=>absurd d2 z⟩).1 c2
   ·exact fun h=>(key.2 ⟨fun _=>h,fun z=>absurd c2 z⟩).1 d2
theorem Tq.iso:∃s,Iso n s (tqT (tmA g t l' n) (fM (bX (tmB g t (bX f t n) (fM t n n) l' n) (tmA g t l' n) (nmE g n)) (nmE g n) (nmE g n)) (nmE g n)) (tqF (nmE g n)) t f:=by
 classical
 have K:=Q.VI H hl
 have hh:=Q.half
 obtain⟨hn,h1,ht,hti,hf,hfl,hcon⟩:=id H
 have QO:=Xf _ _ _ K (by omega)
 obtain⟨_,_,hb,b1,_⟩:=QO
 generalize hB:fM (bX (tmB g t (bX f t n) (fM t n n) l' n) (tmA g t l' n) (nmE g n)) (nmE g n) (nmE g n)=B at*
 have V:=fun(d:Nat) (hd:d<n) (e:evn g d)=>Q.vals H hl hd e
 have W:∀d,d<n->evn g d->φ (τ (φ d))<n/\evn g (φ (τ (φ d)))/\rd B ((nmE g d:Nat):Int)=((nmE g (φ (τ (φ d))):Nat):Int):=fun d hd e=>by
  have a1:=(Q.f1 d hd).2
  have a2:=(Q.t1 _ a1).2
  have a3:=(Q.f1 _ a2).2
  have ex:evn g (φ (τ (φ d))):=(Q.ef _ a2).2 fun z=>(Q.ef d hd).1 ((Q.et _ a1).1 z) e
  have c1:=(Q.t1 _ a3).2
  have c2:=(Q.f1 _ c1).2
  have c3:=(Q.t1 _ c2).2
  have c4:=(Q.f1 _ c3).2
  have e4:evn g (φ (τ (φ (τ (φ (τ (φ d))))))):=(Q.ef _ c3).2 fun z=>(Q.ef _ c1).1 ((Q.et _ c2).1 z) ((Q.et _ a3).2 ex)
  have:=b1 (nmE g (φ (τ (φ d)))) (vP ex a3)
  rw[(V _ a3 ex).2,(V _ c4 e4).1,Q.four d hd]at this
  exact⟨a3,ex,this⟩
 have ch:∀k,∃d,k<nmE g n->d<n/\evn g d/\nmE g d=k:=fun k=>by
  by_cases h:k<nmE g n
  · obtain⟨d,d1⟩:=vJ g n k h
    exact⟨d,fun _=>d1⟩
  ·exact⟨0,fun z=>absurd z h⟩
 obtain⟨ev,hev⟩:∃ev:Nat->Nat,∀k,k<nmE g n->ev k<n/\evn g (ev k)/\nmE g (ev k)=k:=⟨fun k=>Classical.choose (ch k),fun k=>Classical.choose_spec (ch k)⟩
 have back:∀d,d<n->evn g d->ev (nmE g d)=d:=fun d hd e=>by
  obtain⟨q1,q2,q3⟩:=hev (nmE g d) (vP e hd)
  exact Ng q2 e q3
 let s:Nat->Nat:=fun x=>if x%2=0 then ev (x/2)else φ (ev (x/2))
 have se:∀k,s (2*k)=ev k:=fun k=>by
  show(if(2*k)%2=0 then ev (2*k/2)else φ (ev (2*k/2)))=ev k
  rw[if_pos (by omega),show 2*k/2=k by omega]
 have so:∀k,s (2*k+1)=φ (ev k):=fun k=>by
  show(if(2*k+1)%2=0 then ev ((2*k+1)/2)else φ (ev ((2*k+1)/2)))=φ (ev k)
  rw[if_neg (by omega),show(2*k+1)/2=k by omega]
 have hx:∀x,x<n->∃k,k<nmE g n/\(x=2*k\/x=2*k+1):=fun x hx=>⟨x/2,by omega,by omega⟩
 refine⟨s,fun x hxn=>?_,fun x y hxn hyn e=>?_,fun x hxn=>?_,fun x hxn=>?_⟩
 · obtain⟨k,hk,rfl|rfl⟩:=hx x hxn
   ·rw[se];exact(hev k hk).1
   ·rw[so];exact(Q.f1 _ (hev k hk).1).2
 · obtain⟨k,hk,rfl|rfl⟩:=hx x hxn<;>obtain⟨m,hm,rfl|rfl⟩:=hx y hyn
   · rw[se,se]at e
     have a1:=(hev k hk).2.2
     have a2:=(hev m hm).2.2
     rw[e]at a1
     omega
   · rw[se,so]at e
     have a1:=(hev k hk).2.1
     rw[e]at a1
     exact absurd (hev m hm).2.1 ((Q.ef _ (hev m hm).1).1 a1)
   · rw[se,so]at e
     have a1:=(hev m hm).2.1
     rw[<-e]at a1
     exact absurd (hev k hk).2.1 ((Q.ef _ (hev k hk).1).1 a1)
   · rw[so,so]at e
     have e2:ev k=ev m:=by rw[<-Q.ff _ (hev k hk).1,e,Q.ff _ (hev m hm).1]
     have a1:=(hev k hk).2.2
     have a2:=(hev m hm).2.2
     rw[e2]at a1
     omega
 · obtain⟨k,hk,rfl|rfl⟩:=hx x hxn
   · obtain⟨q1,q2,q3⟩:=hev k hk
     have v:=(V _ q1 q2).1
     rw[q3]at v
     rw[(Fh _ B _ k hk).1,v,se,(Q.t1 _ q1).1,show(2*((nmE g (τ (ev k)):Nat):Int)).toNat=2*nmE g (τ (ev k)) by omega,se,back _ (Q.t1 _ q1).2 ((Q.et _ q1).2 q2)]
   · obtain⟨q1,q2,q3⟩:=hev k hk
     obtain⟨w1,w2,w3⟩:=W _ q1 q2
     rw[q3]at w3
     have f1:=Q.f1 _ q1
     have t1:=Q.t1 _ f1.2
     rw[(Fh _ B _ k hk).2,w3,so,t1.1,show(2*((nmE g (φ (τ (φ (ev k)))):Nat):Int)+1).toNat=2*nmE g (φ (τ (φ (ev k))))+1 by omega,so,back _ w1 w2,Q.ff _ t1.2]
 · obtain⟨k,hk,rfl|rfl⟩:=hx x hxn
   · obtain⟨q1,q2,q3⟩:=hev k hk
     rw[(tu _ k hk).1,se,Int.toNat_natCast,so,(Q.f1 _ q1).1]
   · obtain⟨q1,q2,q3⟩:=hev k hk
     rw[(tu _ k hk).2,so,Int.toNat_natCast,se,(Q.f1 _ (Q.f1 _ q1).2).1,Q.ff _ q1]
end
theorem ahE (n:Nat) (s:Nat->Nat) (p q:List Int) (hp:inR n p) (ip:fK n p) (hq:inR n q) (iq:fK n q) (h1:∀x,x<n->s x<n) (h2:∀x y,x<n->y<n->s x=s y->x=y) (h3:∀x,x<n->rd q ((s x:Nat):Int)=(s (rd p (x:Int)).toNat:Int)):
 (cyS p n n).2.length=(cyS q n n).2.length:=by
 classical
 have kp:=Fc p n hp ip
 have kq:=Fc q n hq iq
 have pn:∀x:Nat,x<n->(rd p (x:Int)).toNat<n:=fun x hx=>by have:=hp.2 x hx;omega
 have surj:∀z,z<n->∃x,x<n/\s x=z:=fun z hz=>by
  by_cases h:∃x,x<n/\s x=z
  ·exact h
  · exfalso
    have:=vF (z::(List.range n).map s) (List.range n) (List.nodup_cons.2 ⟨fun hm=>by
     obtain⟨x,hx,e⟩:=List.mem_map.1 hm
     exact h ⟨x,List.mem_range.1 hx,e⟩,Jq List.nodup_range fun x hx y hy e=>h2 x y (List.mem_range.1 hx) (List.mem_range.1 hy) e⟩) fun x hx=>by
     rcases List.mem_cons.1 hx with rfl|hx
     ·exact List.mem_range.2 hz
     · obtain⟨y,hy,rfl⟩:=List.mem_map.1 hx
       exact List.mem_range.2 (h1 y (List.mem_range.1 hy))
    simp at this
    omega
 have fwd:∀x y,Reach [p] n x y->Reach [q] n (s x) (s y):=fun x y h S hS=>by
  refine h (fun z=>S (s z)) fun r hr k hk=>?_
  rw[List.mem_singleton.1 hr]
  have:=hS q (by simp) (s k) (h1 k hk)
  rwa [h3 k hk,Int.toNat_natCast]at this
 have bwd:∀x y,x<n->y<n->Reach [q] n (s x) (s y)->Reach [p] n x y:=fun x y hx hy h S hS=>by
  have c:=vE q n hq iq (fun z=>∃w,w<n/\s w=z/\S w) fun k hk ⟨w,w1,w2,w3⟩=>by
   refine⟨(rd p (w:Int)).toNat,pn w w1,?_,(hS p (by simp) w w1).1 w3⟩
   rw[<-w2,h3 w w1,Int.toNat_natCast]
  have c':=vE q n hq iq (fun z=>∃w,w<n/\s w=z/\¬S w) fun k hk ⟨w,w1,w2,w3⟩=>by
   refine⟨(rd p (w:Int)).toNat,pn w w1,?_,fun z=>w3 ((hS p (by simp) w w1).2 z)⟩
   rw[<-w2,h3 w w1,Int.toNat_natCast]
  constructor
  · intro hs
    obtain⟨w,w1,w2,w3⟩:=(h _ c).1 ⟨x,hx,rfl,hs⟩
    rwa [h2 w y w1 hy w2]at w3
  · intro hs
    obtain⟨w,w1,w2,w3⟩:=(h.symm _ c).1 ⟨y,hy,rfl,hs⟩
    rwa [h2 w x w1 hx w2]at w3
 have eqv:∀r:List Int,(∀x,Reach [r] n x x)/\(∀x y,Reach [r] n x y->Reach [r] n y x)/\∀x y z,Reach [r] n x y->Reach [r] n y z->Reach [r] n x z:=fun r=>⟨fun x=>Reach.refl _ _ x,fun _ _ h=>h.symm,fun _ _ _ h h'=>h.trans h'⟩
 have l1:(cyS p n n).2.length<=(cyS q n n).2.length:=by
  have ch:∀x,∃y,y<=s x/\lst (Reach [q] n) y/\Reach [q] n y (s x):=fun x=>Jo _ (eqv q).1 (eqv q).2.1 (eqv q).2.2 (s x)
  refine kp.le kq (fun x=>Classical.choose (ch x)) (fun x hx _=>?_) (fun x y hx px hy py e=>?_)
  · obtain⟨a,b,c⟩:=Classical.choose_spec (ch x)
    have:=h1 x hx
    exact⟨by omega,b⟩
  · obtain⟨_,_,c⟩:=Classical.choose_spec (ch x)
    obtain⟨_,_,c'⟩:=Classical.choose_spec (ch y)
    have e:Classical.choose (ch x)=Classical.choose (ch y):=e
    rw[e]at c
    exact Yv _ (eqv p).2.1 x y px py (bwd x y hx hy (c.symm.trans c'))
 have l2:(cyS q n n).2.length<=(cyS p n n).2.length:=by
  have ch:∀z,∃y,z<n->(y<n/\lst (Reach [p] n) y/\Reach [q] n (s y) z):=fun z=>by
   by_cases hz:z<n
   · obtain⟨x,x1,x2⟩:=surj z hz
     obtain⟨y,y1,y2,y3⟩:=Jo _ (eqv p).1 (eqv p).2.1 (eqv p).2.2 x
     exact⟨y,fun _=>⟨by omega,y2,x2▸fwd y x y3⟩⟩
   ·exact⟨0,fun h=>absurd h hz⟩
  refine kq.le kp (fun x=>Classical.choose (ch x)) (fun x hx _=>?_) (fun x y hx px hy py e=>?_)
  · obtain⟨a,b,_⟩:=Classical.choose_spec (ch x) hx
    exact⟨a,b⟩
  · obtain⟨_,_,c⟩:=Classical.choose_spec (ch x) hx
    obtain⟨_,_,c'⟩:=Classical.choose_spec (ch y) hy
    have e:Classical.choose (ch x)=Classical.choose (ch y):=e
    rw[e]at c
    exact Yv _ (eqv q).2.1 x y px py (c.symm.trans c')
 omega
theorem Vu (l:List Int) (hl:l.length<=1048576):∀(d:Nat) (i:Nat),l.length-i=d->i<=l.length->Ev (fun k=>oK.l0 k l l i) true
 |0,i,hd,hi=>by
  refine Ev.s ?_
  simp only[oK.l0,show ¬(i:Int)<(l.length:Int) by omega,if_false]
  exact Ev.const rfl
 |d+1,i,hd,hi=>by
  refine Ev.s ?_
  simp only[oK.l0,show(i:Int)<(l.length:Int) by omega,show(0:Int)<=i by omega,if_true]
  rw[w64 (x:=(i:Int)+1) (by omega) (by omega),show((i:Int)+1)=((i+1:Nat):Int) by omega]
  exact Vu l hl d (i+1) (by omega) (by omega)
theorem YX (l:List Int) (hl:l.length<=1048576):Ev (fun k=>oK.f k l l) true:=by
 unfold oK.f
 simp only[if_true]
 exact Vu l hl l.length 0 (by omega) (by omega)
theorem ahS (a b:List Int) (ha:a.length<=1048576) (hb:b.length<=1048576):Ev (fun k=>vQ.f k a b a b) true:=by
 unfold vQ.f
 refine Ev.bind (YX a ha) ?_
 simp only[if_true]
 exact Ev.bind (YX b hb) (Ev.const rfl)
section
variable (t f:List Int) (n:Nat) (H:jO t f n) (hm:isMap t f)
include H hm
theorem M9:Ev (fun k=>eN.f k t f) true:=by
 obtain⟨hn,h1,ht,hti,hf,hfl,hcon⟩:=id H
 have l1:=ht.1
 have l2:=hf.1
 obtain⟨b,_,b2,b3⟩:=AL t f (by omega) (by omega)
 have hb:b=true:=b3.2 hm
 subst hb
 exact b2
theorem VP:Ev (fun k=>oH.f k t f) ([((cyS t n n).2.length:Int),wrap64 ((f.length:Int)/2),((cyS (bX f t n) n n).2.length:Int)],true):=by
 obtain⟨hn,h1,ht,hti,hf,hfl,hcon⟩:=id H
 unfold oH.f
 refine Ev.bind (M9 t f n H hm) ?_
 simp only[if_true]
 refine Ev.bind (FE t n (by omega) ht) ?_
 refine Ev.bind (wW n (by omega) f t hf ht) ?_
 refine Ev.bind (FE (bX f t n) n (by omega) (qW n f t hf ht)) ?_
 exact Ev.const rfl
theorem VM:Ev (fun k=>xa.f k t f) (wrap64 (Int.tdiv (wrap64 ((wrap64 ((wrap64 (2-((cyS t n n).2.length:Int)))+(wrap64 ((f.length:Int)/2))))-((cyS (bX f t n) n n).2.length:Int))) 2)):=by
 obtain⟨hn,h1,ht,hti,hf,hfl,hcon⟩:=id H
 unfold xa.f
 refine Ev.bind (M9 t f n H hm) ?_
 simp only[if_true]
 refine Ev.bind (a:=wrap64 (Int.tdiv (wrap64 ((wrap64 ((wrap64 (2-((cyS t n n).2.length:Int)))+(wrap64 ((f.length:Int)/2))))-((cyS (bX f t n) n n).2.length:Int))) 2)) ?_ (Ev.const rfl)
 unfold qK.f
 refine Ev.bind (FE t n (by omega) ht) ?_
 refine Ev.bind (wW n (by omega) f t hf ht) ?_
 refine Ev.bind (FE (bX f t n) n (by omega) (qW n f t hf ht)) ?_
 exact Ev.const rfl
end
theorem afy (t f:List Int) (n:Nat) (H:jO t f n) (hm:isMap t f) (h6:n<=6):Ev (fun k=>dw.f k t f) (tqT t (fM (bX f t n) n n) n,tqF n,true):=by
 obtain⟨hn,h1,ht,hti,hf,hfl,hcon⟩:=id H
 have l1:=ht.1
 have hm2:=qW n f t hf ht
 have hb:=yE (bX f t n) n
 unfold dw.f
 refine Ev.bind (M9 t f n H hm) ?_
 simp only[if_true,l1,decide_eq_false (show ¬(n:Int)>6 by omega)]
 refine Ev.s ?_
 simp only[dw.j0,Bool.false_eq_true,if_false]
 refine Ev.bind (wW n (by omega) f t hf ht) ?_
 refine Ev.bind (IK n (by omega) _ hm2) ?_
 have e1:wrap64 (2*(n:Int))=2*(n:Int):=w64 (by omega) (by omega)
 have n1:(2*(n:Int)).toNat=2*n:=by omega
 have g1:(0:Int)<=2*(n:Int):=by omega
 have g2:2*n<=35184372088832:=by omega
 simp only[l1,e1,n1,g1,g2,if_true]
 exact NV n (by omega) t f _ ht hb n 0 (List.replicate (2*n) 0) (List.replicate (2*n) 0) (by omega) (by omega) (by simp) (by simp) rfl rfl
def Nx (t f:List Int) (n:Nat):Prop:=n<=12/\1<=n/\inR n t/\fK n t/\inR n f/\(∀i:Nat,i<n->qO f i)/\∀i j:Nat,i<n->j<n->Reach [t,f] n i j
theorem X4 (l:List Int) (n:Nat) (h1:1<=n) (h12:n<=12) (hl:inR n l) (hi:fK n l):uJ l:=by
 refine⟨by rw[hl.1];exact h1,by rw[hl.1];exact h12,fun i hi'=>?_⟩
 rw[hl.1]at hi'
 have:=hl.2 i hi'
 refine⟨this.1,by rw[hl.1];exact this.2,fun k hk e=>?_⟩
 have:=hi k i (by omega) hi' e
 omega
theorem ahf (f:List Int) (n:Nat) (hf:inR n f) (hfl:∀i:Nat,i<n->qO f i):fK n f:=by
 intro i j hi hj e
 have h1:=(hfl i hi).2
 rw[e,(hfl j hj).2]at h1
 omega
theorem Oa {t f:List Int} {n:Nat} (H:Nx t f n):isMap t f:=by
 obtain⟨hn,h1,ht,hti,hf,hfl,hcon⟩:=H
 refine⟨X4 t n h1 hn ht hti,X4 f n h1 hn hf (ahf f n hf hfl),by rw[ht.1,hf.1],?_,?_⟩
 ·rw[hf.1];exact hfl
 ·rw[hf.1];exact hcon
theorem surj (t:List Int) (n:Nat) (ht:inR n t) (hti:fK n t) (i:Nat) (hi:i<n):∃j:Nat,j<n/\rd t j=i:=by
 obtain⟨k,_,h2⟩:=FN t n ht hti i (by omega)
 have hin:=sJ t n ht k i (by omega)
 refine⟨(itr t k i).toNat,by omega,?_⟩
 rw[show(((itr t k i).toNat:Nat):Int)=itr t k i by omega]
 have:=wY t k 1 (i:Int)
 rw[h2]at this
 exact this.symm
theorem af3 (V E F V' E' F':Int) (h1:0<=V/\V<=100) (h2:0<=E/\E<=100) (h3:0<=F/\F<=100) (h1':0<=V'/\V'<=100) (h2':0<=E'/\E'<=100) (h3':0<=F'/\F'<=100) (h:2-V+E-F=2-V'+E'-F'):
 wrap64 (Int.tdiv (wrap64 ((wrap64 ((wrap64 (2-V))+(wrap64 E)))-F)) 2)=wrap64 (Int.tdiv (wrap64 ((wrap64 ((wrap64 (2-V'))+(wrap64 E')))-F')) 2):=by
 rw[w64 (x:=2-V) (by omega) (by omega),w64 (x:=E) (by omega) (by omega),w64 (x:=2-V+E) (by omega) (by omega),w64 (x:=2-V+E-F) (by omega) (by omega),w64 (x:=2-V') (by omega) (by omega),w64 (x:=E') (by omega) (by omega),w64 (x:=2-V'+E') (by omega) (by omega),w64 (x:=2-V'+E'-F') (by omega) (by omega),h]
theorem aho (t f:List Int) (n:Nat) (H:jO t f n) (h4:∀l∈(cyS (bX f t n) n n).2,l.length=4):4*(cyS (bX f t n) n n).2.length=n:=by
 obtain⟨hn,h1,ht,hti,hf,hfl,hcon⟩:=id H
 have pin:=qW n f t hf ht
 have inj:fK n (bX f t n):=fun i j hi hj e=>by
  rw[mI f t n i hi,mI f t n j hj]at e
  have ri:=hf.2 i hi
  have rj:=hf.2 j hj
  have e2:(rd f (i:Int)).toNat=(rd f (j:Int)).toNat:=hti _ _ (by omega) (by omega) (by rw[show(((rd f (i:Int)).toNat:Nat):Int)=rd f (i:Int) by omega,show(((rd f (j:Int)).toNat:Nat):Int)=rd f (j:Int) by omega];exact e)
  have e3:rd f (i:Int)=rd f (j:Int):=by omega
  have f1:=(hfl i hi).2
  have f2:=(hfl j hj).2
  rw[e3,f2]at f1
  omega
 obtain⟨_,hp⟩:=V1 _ n pin inj h4
 exact(agM _ n pin inj (fun x hx=>(hp x hx).1) (fun x hx=>(hp x hx).2.2.1)).2
theorem agl (t f:List Int) (n:Nat) (H:jO t f n) (hm:isMap t f) (h4:∀l∈(cyS (bX f t n) n n).2,l.length=4) (a:Nat) (g:List Int) (hg:lG t f n a g) (hpar:∀x:Nat,x<n->¬Int.tmod (rd g (x:Int)) 2=Int.tmod (rd g (rd f (x:Int))) 2)
 (l':List Int) (hl:∀z:Nat,z<n->rd l' (z:Int)=((nmE g z:Nat):Int)) (T F:List Int) (eT:T=tmA g t l' n) (eF:F=tmB g t (bX f t n) (fM t n n) l' n):
 ∃N,2*N=n/\jO T F N/\isMap T F/\Ev (fun k=>dw.f k T F) (tqT T (fM (bX F T N) N N) N,tqF N,true)/\
  Ev (fun k=>pI.f k (tqT T (fM (bX F T N) N N) N) (tqF N) t f) true/\(cyS t n n).2.length=(cyS T N N).2.length+(cyS (bX F T N) N N).2.length/\(cyS T N N).2.length<=N/\(cyS (bX F T N) N N).2.length<=N/\F.length=N/\N<=6:=by
 subst eT eF
 have Q:=ahU t f g l' n H h4 a hg hpar
 have K:=Q.VI H hl
 have hh:=Q.half
 obtain⟨s,I⟩:=Q.iso H hl
 obtain⟨hn,h1,ht,hti,hf,hfl,hcon⟩:=id H
 have hmT:=Oa (show Nx _ _ _ from K)
 have QO:=Xf _ _ _ K (by omega)
 have O:=VX _ _ _ _ QO
 have cnt:=agd _ _ _ _ QO
 generalize hN:nmE g n=N at*
 generalize hT:tmA g t l' n=T at*
 generalize hF:tmB g t (bX f t n) (fM t n n) l' n=F at*
 rw[hh]at O cnt
 have hmX:=Oa (show Nx _ _ _ from O)
 obtain⟨_,_,oT,oTi,_⟩:=id O
 have e1:=ahE n s _ t oT oTi ht hti I.1 I.2.1 I.2.2.1
 refine⟨N,hh,K,hmT,afy T F N K hmT (by omega),agw n s _ _ t f hmX hm O H I,by rw[<-e1];exact cnt,CV _ _ _,CV _ _ _,?_,by omega⟩
 exact K.2.2.2.2.1.1
theorem ahl (a b:Int) (ha:0<=a) (hb:0<=b) (ha':a<9223372036854775808) (hb':b<9223372036854775808):0<=Go.bits .xor .i64 a b:=by
 obtain⟨n,rfl⟩:=Int.eq_ofNat_of_zero_le ha
 obtain⟨m,rfl⟩:=Int.eq_ofNat_of_zero_le hb
 have hn:n%2^64=n:=Nat.mod_eq_of_lt (by omega)
 have hm:m%2^64=m:=Nat.mod_eq_of_lt (by omega)
 have hx:n^^^m<2^63:=Nat.xor_lt_two_pow (by omega) (by omega)
 have e:Go.bits .xor .i64 (n:Int) (m:Int)=IntKind.i64.wrap ((n^^^m:Nat):Int):=by
  simp only[Go.bits,BitVec.ofInt_natCast]
  show IntKind.i64.wrap (((BitVec.ofNat 64 n^^^BitVec.ofNat 64 m).toNat:Nat):Int)=_
  rw[BitVec.toNat_xor,BitVec.toNat_ofNat,BitVec.toNat_ofNat,hn,hm]
 rw[e,IntKind.wrap_i64]
 omega
def qh (l:List Int):Prop:=l.length<=2000/\∀x∈l,0<=x/\x<=255
theorem M8 (l:List Int) (h:qh l) (i:Int):0<=rd l i/\rd l i<=255:=by
 unfold rd
 by_cases hi:i.toNat<l.length
 · rw[List.getD_eq_getElem?_getD,List.getElem?_eq_getElem hi]
   exact h.2 _ (List.getElem_mem hi)
 · rw[List.getD_eq_getElem?_getD,List.getElem?_eq_none (by omega)]
   decide
theorem rP (l:List Int) (h:qh l) (p:Int) (hp:0<=p) (hp':p<=1000000) (n:Int) (hn:1<=n) (hn':n<=1000000):∃v,Ev (fun k=>eC.f k l p n) (v,p+1)/\0<=v/\v<n:=by
 have w0:wrap64 (p+1)=p+1:=w64 (by omega) (by omega)
 have w1:wrap64 (p+1-1)=p:=by rw[w64 (by omega) (by omega)];omega
 have hl:=h.1
 unfold eC.f
 simp only[show ¬n<1 by omega,if_false,w0]
 by_cases hz:l.length=0
 · refine⟨0,Ev.s ?_,by omega,by omega⟩
   have:(((l.length:Int))==0)=true:=by simp[hz]
   simp only[this,eC.j0,if_true]
   exact Ev.const rfl
 · have hb:(((l.length:Int))==0)=false:=by rw[beq_eq_false_iff_ne];omega
   have hn0:¬n=0:=by omega
   by_cases hlt:p<(l.length:Int)
   · have hr:=M8 l h p
     have wr:wrap64 (rd l p)=rd l p:=w64 (by omega) (by omega)
     refine⟨Int.tmod (rd l p) n,Ev.s ?_,Int.tmod_nonneg _ (by omega),Int.tmod_lt_of_pos _ (by omega)⟩
     simp only[hb,eC.j0,w1,hlt,hp,hn0,wr,Bool.false_eq_true,if_true,if_false]
     exact Ev.const rfl
   · have hl0:¬(l.length:Int)=0:=by omega
     have wk:wrap64 (p*7)=p*7:=w64 (by omega) (by omega)
     have wk3:wrap64 (p*7+3)=p*7+3:=w64 (by omega) (by omega)
     have t1:=Int.tmod_nonneg (a:=p) (l.length:Int) hp
     have t2:=Int.tmod_lt_of_pos p (b:=(l.length:Int)) (by omega)
     have t3:=Int.tmod_nonneg (a:=p*7+3) (l.length:Int) (by omega)
     have t4:=Int.tmod_lt_of_pos (p*7+3) (b:=(l.length:Int)) (by omega)
     have r1:=M8 l h (Int.tmod p (l.length:Int))
     have r2:=M8 l h (Int.tmod (p*7+3) (l.length:Int))
     have d1:0<=Int.tdiv p (l.length:Int):=Int.tdiv_nonneg hp (by omega)
     have d2:Int.tdiv p (l.length:Int)<=p:=Int.tdiv_le_self _ hp
     obtain⟨X,hX,hX0,hX1⟩:∃X,(wrap64 ((wrap64 ((wrap64 ((wrap64 ((wrap64 (rd l (Int.tmod p (l.length:Int))))*131))+(wrap64 ((wrap64 (rd l (Int.tmod (p*7+3) (l.length:Int))))*1117))))+(wrap64 (p*29))))+(wrap64 ((wrap64 (Int.tdiv p (l.length:Int)))*53))))=X/\0<=X/\X<4611686018427387904:=by
      refine⟨_,rfl,?_,?_⟩
      all_goals
       generalize rd l (Int.tmod p (l.length:Int))=a at*
       generalize rd l (Int.tmod (p*7+3) (l.length:Int))=b at*
       generalize Int.tdiv p (l.length:Int)=c at*
       rw[w64 (x:=a) (by omega) (by omega),w64 (x:=b) (by omega) (by omega),w64 (x:=a*131) (by omega) (by omega),w64 (x:=b*1117) (by omega) (by omega),w64 (x:=a*131+b*1117) (by omega) (by omega),w64 (x:=p*29) (by omega) (by omega),w64 (x:=a*131+b*1117+p*29) (by omega) (by omega),w64 (x:=c) (by omega) (by omega),w64 (x:=c*53) (by omega) (by omega),w64 (x:=a*131+b*1117+p*29+c*53) (by omega) (by omega)]
       omega
     have hd:0<=wrap64 (Int.tdiv X 64)/\wrap64 (Int.tdiv X 64)<9223372036854775808:=by
      have:=Int.tdiv_nonneg hX0 (show(0:Int)<=64 by decide)
      have:=Int.tdiv_le_self 64 hX0
      rw[w64 (by omega) (by omega)]
      omega
     have hx:=ahl X (wrap64 (Int.tdiv X 64)) hX0 hd.1 (by omega) hd.2
     refine⟨Int.tmod (Go.bits .xor .i64 X (wrap64 (Int.tdiv X 64))) n,Ev.s ?_,Int.tmod_nonneg _ hx,Int.tmod_lt_of_pos _ (by omega)⟩
     simp only[hb,eC.j0,w1,hlt,hl0,wk,wk3,t1,t2,t3,t4,hn0,hX,Bool.false_eq_true,if_true,if_false]
     exact Ev.const rfl
theorem afO (l:List Int) (hb:∀x∈l,(Lit.int .u8 x).wf=true):∃l',AF.f l=some (l',0)/\qh l':=by
 have hb':∀x∈l,0<=x/\x<=255:=by
  intro x hx
  have:=hb x hx
  simp only[Lit.wf,IntKind.min,IntKind.max,IntKind.signed,IntKind.bits,Bool.and_eq_true,decide_eq_true_eq,Bool.false_eq_true,if_false]at this
  omega
 unfold AF.f
 by_cases h:(l.length:Int)>2000
 · refine⟨l.take 2000,?_,?_,fun x hx=>hb' x (List.mem_of_mem_take hx)⟩
   ·rw[if_pos h,if_pos (by omega)]
   ·rw[List.length_take];omega
 ·exact⟨l,by rw[if_neg h],by omega,hb'⟩
theorem ahs (l:List Int) (h:qh l) (p:Int) (hp:0<=p) (hp':p<=1000000) (L:List ByteArray) (h1:1<=L.length) (h2:L.length<=100):∃v:Int,Ev (fun k=>AD.f k l p L) (gH ByteArray.empty L v,p+1)/\0<=v/\v<L.length:=by
 obtain⟨v,hv,v0,v1⟩:=rP l h p hp hp' (L.length:Int) (by omega) (by omega)
 refine⟨v,?_,v0,v1⟩
 unfold AD.f
 refine Ev.bind hv ?_
 simp only[v0,v1,if_true]
 exact Ev.const rfl
theorem Ja (s:ByteArray) (b:UInt8):(s++(⟨#[b]⟩:ByteArray)).size=s.size+1:=by
 rw[ByteArray.size_append];rfl
theorem afx (l:List Int) (h:qh l) (n up p:Int) (s:ByteArray) (st:List Int) (hn:1<=n) (hn':n<=4) (hs:¬(s.size:Int)<2*n) (hs':s.size<=8) (h1:1<=st.length) (h8:st.length<=8) (hp:0<=p) (hp':p<=10000):
 ∃s' st' p',Ev (fun k=>dP.l0 k n up l p s st) (s',st',p')/\s'.size<=10/\st'.length<=10/\0<=p'/\p'<=p+3:=by
 have w2:wrap64 (2*n)=2*n:=w64 (by omega) (by omega)
 obtain⟨v,hv,v0,v1⟩:=rP l h p hp (by omega) 40 (by omega) (by omega)
 by_cases c0:v=0
 · obtain⟨q,hq,q0,q1⟩:=ahs l h (p+1) (by omega) (by omega) ([(⟨#[40]⟩:ByteArray),(⟨#[41]⟩:ByteArray),(⟨#[120]⟩:ByteArray),(⟨#[40,41]⟩:ByteArray)]:List ByteArray) (by decide) (by decide)
   have hz:(gH ByteArray.empty ([(⟨#[40]⟩:ByteArray),(⟨#[41]⟩:ByteArray),(⟨#[120]⟩:ByteArray),(⟨#[40,41]⟩:ByteArray)]:List ByteArray) q).size<=2:=by
    have hc:q=0\/q=1\/q=2\/q=3:=by
     have:q<4:=q1
     omega
    rcases hc with rfl|rfl|rfl|rfl<;>decide
   generalize gH ByteArray.empty ([(⟨#[40]⟩:ByteArray),(⟨#[41]⟩:ByteArray),(⟨#[120]⟩:ByteArray),(⟨#[40,41]⟩:ByteArray)]:List ByteArray) q=y at hq hz
   refine⟨s++y,st,p+1+1,Ev.s ?_,?_,by omega⟩
   · simp only[dP.l0,w2,hs,if_false]
     refine Ev.bind hv ?_
     simp only[c0,if_true]
     refine Ev.bind hq ?_
     simp only[show s.size+y.size<=9223372036854775807 by omega,if_true]
     exact Ev.const rfl
   ·rw[ByteArray.size_append];omega
 · by_cases c1:v=1
   · obtain⟨q,hq,q0,q1⟩:=rP l h (p+1) (by omega) (by omega) 2 (by omega) (by omega)
     refine⟨s,st.set (Int.toNat 0) (rd [(-2),2] q),p+1+1,Ev.s ?_,by omega,by simp;omega⟩
     simp only[dP.l0,w2,hs,if_false]
     refine Ev.bind hv ?_
     simp only[c1,show ¬((1:Int)=0) by decide,if_false,if_true,Option.bind_some]
     refine Ev.bind hq ?_
     simp only[q0,show q<(([(-2),2]:List Int).length:Int)from q1,show(0:Int)<(st.length:Int) by omega,if_true]
     exact Ev.const rfl
   · by_cases c2:v=2
     · refine⟨s,st.drop (Int.toNat 1),p+1,Ev.s ?_,by omega,by simp;omega⟩
       simp only[dP.l0,w2,hs,if_false]
       refine Ev.bind hv ?_
       simp only[c2,show ¬((2:Int)=0) by decide,show ¬((2:Int)=1) by decide,show(1:Int)<=(st.length:Int) by omega,if_false,if_true]
       exact Ev.const rfl
     · refine⟨s,st,p+1,Ev.s ?_,by omega,by omega⟩
       simp only[dP.l0,w2,hs,if_false]
       refine Ev.bind hv ?_
       simp only[c0,c1,c2,if_false]
       exact Ev.const rfl
theorem Nq (l:List Int) (h:qh l) (n:Int) (hn:1<=n) (hn':n<=4):∀(d:Nat) (up p:Int) (s:ByteArray) (st:List Int),0<=up->up<=st.length->(s.size:Int)+up=2*st.length->2*n-s.size=d->0<=p->p+2*d<=1000->
 ∃s' st' p',Ev (fun k=>dP.l0 k n up l p s st) (s',st',p')/\s'.size<=10/\st'.length<=10/\0<=p'/\p'<=p+2*(d:Int)+3
 |0,up,p,s,st,hu,hu',hs,hd,hp,hp'=>by
  obtain⟨s',st',p',e,z1,z2,z3,z4⟩:=afx l h n up p s st hn hn' (by omega) (by omega) (by omega) (by omega) hp (by omega)
  exact⟨s',st',p',e,z1,z2,z3,by omega⟩
 |d+1,up,p,s,st,hu,hu',hs,hd,hp,hp'=>by
  have w2:wrap64 (2*n)=2*n:=w64 (by omega) (by omega)
  have wm:wrap64 (up-1)=up-1:=w64 (by omega) (by omega)
  have wp:wrap64 (up+1)=up+1:=w64 (by omega) (by omega)
  have hlt:(s.size:Int)<2*n:=by omega
  have hs1:s.size+1<=9223372036854775807:=by omega
  have hst:st.length<17592186044416:=by omega
  have down:∀p1:Int,0<=p1->p1<=p+2->up>0->∃s' st' p',Ev (fun k=>dP.l0 k n (up-1) l p1 (s++(⟨#[41]⟩:ByteArray)) st) (s',st',p')/\s'.size<=10/\st'.length<=10/\0<=p'/\p'<=p1+2*(d:Int)+3:=fun p1 h0 h1 hup=>
   Nq l h n hn hn' d (up-1) p1 _ st (by omega) (by omega) (by rw[Ja];omega) (by rw[Ja];omega) h0 (by omega)
  have over:∀(p1 x:Int),0<=p1->p1<=p+2->∃s' st' p',Ev (fun k=>dP.l0 k n (up+1) l p1 (s++(⟨#[40]⟩:ByteArray)) (st++[x])) (s',st',p')/\s'.size<=10/\st'.length<=10/\0<=p'/\p'<=p1+2*(d:Int)+3:=fun p1 x h0 h1=>
   Nq l h n hn hn' d (up+1) p1 _ _ (by omega) (by simp;omega) (by rw[Ja];simp;omega) (by rw[Ja];omega) h0 (by omega)
  by_cases c1:up>0
  · by_cases c2:(st.length:Int)=n
    · obtain⟨s',st',p',e,z1,z2⟩:=down p hp (by omega) c1
      refine⟨s',st',p',Ev.s ?_,z1,by omega⟩
      simp only[dP.l0,w2,hlt,c1,c2,hs1,wm,if_true]
      exact e
    · obtain⟨v,hv,v0,v1⟩:=rP l h p hp (by omega) 2 (by omega) (by omega)
      by_cases c3:v=0
      · obtain⟨s',st',p',e,z1,z2⟩:=down (p+1) (by omega) (by omega) c1
        refine⟨s',st',p',Ev.s ?_,z1,by omega⟩
        simp only[dP.l0,w2,hlt,c1,c2,if_true,if_false]
        refine Ev.bind hv ?_
        simp only[c3,hs1,wm,if_true]
        exact e
      · obtain⟨q,hq,q0,q1⟩:=rP l h (p+1) (by omega) (by omega) 3 (by omega) (by omega)
        obtain⟨s',st',p',e,z1,z2⟩:=over (p+1+1) (wrap64 (q-1)) (by omega) (by omega)
        refine⟨s',st',p',Ev.s ?_,z1,by omega⟩
        simp only[dP.l0,w2,hlt,c1,c2,if_true,if_false]
        refine Ev.bind hv ?_
        simp only[c3,hs1,if_true,if_false]
        refine Ev.bind hq ?_
        simp only[hst,wp,if_true]
        exact e
  · obtain⟨q,hq,q0,q1⟩:=rP l h p hp (by omega) 3 (by omega) (by omega)
    obtain⟨s',st',p',e,z1,z2⟩:=over (p+1) (wrap64 (q-1)) (by omega) (by omega)
    refine⟨s',st',p',Ev.s ?_,z1,by omega⟩
    simp only[dP.l0,w2,hlt,c1,hs1,if_true,if_false]
    refine Ev.bind hq ?_
    simp only[hst,wp,if_true]
    exact e
theorem afz (l:List Int) (h:qh l) (p:Int) (hp:0<=p) (hp':p<=900) (most:Int) (hm:1<=most) (hm':most<=4):∃s st p',Ev (fun k=>dP.f k l p most) (s,st,p')/\s.size<=10/\st.length<=10/\0<=p'/\p'<=p+30:=by
 obtain⟨v,hv,v0,v1⟩:=rP l h p hp (by omega) most hm (by omega)
 obtain⟨s,st,p',e,z1,z2,z3,z4⟩:=Nq l h (1+v) (by omega) (by omega) (2*(1+v)).toNat 0 (p+1) (⟨#[]⟩:ByteArray) [] (by omega) (by simp) (by rfl) (by
  show 2*(1+v)-((0:Nat):Int)=_
  omega) (by omega) (by omega)
 refine⟨s,st,p',?_,z1,z2,z3,by omega⟩
 unfold dP.f
 refine Ev.bind hv ?_
 rw[w64 (x:=1+v) (by omega) (by omega)]
 exact e
theorem Yq (o:List Int) (i:Nat) (ho:inR i o) (hi:fK i o):inR (i+1) (o++[(i:Int)])/\fK (i+1) (o++[(i:Int)]):=by
 have last:rd (o++[(i:Int)]) (i:Int)=i:=by
  rw[kE _ _ (by simp[ho.1]),List.getElem_append_right (by rw[ho.1];exact Nat.le_refl _)]
  simp
 have old:∀j:Nat,j<i->rd (o++[(i:Int)]) (j:Int)=rd o (j:Int):=fun j hj=>FP _ _ _ (by rw[ho.1];exact hj)
 refine⟨⟨by simp[ho.1],fun j hj=>?_⟩,fun j k hj hk e=>?_⟩
 · by_cases h:j<i
   · rw[old j h]
     have:=ho.2 j h
     omega
   · rw[show j=i by omega,last]
     omega
 · by_cases h:j<i
   · have a:=ho.2 j h
     by_cases h':k<i
     · rw[old j h,old k h']at e
       exact hi j k h h' e
     · rw[show k=i by omega,last,old j h]at e
       omega
   · by_cases h':k<i
     · have a:=ho.2 k h'
       rw[show j=i by omega,last,old k h']at e
       omega
     ·omega
theorem set_perm (o:List Int) (n a b:Nat) (ho:inR n o) (hi:fK n o) (ha:a<n) (hb:b<n):inR n ((o.set a (rd o b)).set b (rd o a))/\fK n ((o.set a (rd o b)).set b (rd o a)):=by
 have val:∀j:Nat,j<n->rd ((o.set a (rd o b)).set b (rd o a)) (j:Int)=if b=j then rd o a else if a=j then rd o b else rd o j:=by
  intro j hj
  by_cases e1:b=j
  · subst e1
    rw[qV _ _ _ (by simp[ho.1];exact hb),if_pos rfl]
  · rw[qa _ _ _ _ e1,if_neg e1]
    by_cases e2:a=j
    · subst e2
      rw[qV _ _ _ (by rw[ho.1];exact ha),if_pos rfl]
    ·rw[qa _ _ _ _ e2,if_neg e2]
 have ra:=ho.2 a ha
 have rb:=ho.2 b hb
 refine⟨⟨by simp[ho.1],fun j hj=>?_⟩,fun j k hj hk e=>?_⟩
 · rw[val j hj]
   have:=ho.2 j hj
   split
   ·exact ra
   · split
     ·exact rb
     ·exact this
 · rw[val j hj,val k hk]at e
   have i1:=hi a b ha hb
   have i2:=hi a j ha hj
   have i3:=hi a k ha hk
   have i4:=hi b j hb hj
   have i5:=hi b k hb hk
   have i6:=hi j k hj hk
   by_cases c1:b=j
   · rw[if_pos c1]at e
     by_cases c2:b=k
     ·omega
     · rw[if_neg c2]at e
       by_cases c3:a=k
       · rw[if_pos c3]at e
         have:=i1 e
         omega
       · rw[if_neg c3]at e
         exact absurd (i3 e) c3
   · rw[if_neg c1]at e
     by_cases c4:a=j
     · rw[if_pos c4]at e
       by_cases c2:b=k
       · rw[if_pos c2]at e
         have:=i1 e.symm
         omega
       · rw[if_neg c2]at e
         by_cases c3:a=k
         ·omega
         · rw[if_neg c3]at e
           exact absurd (i5 e) c2
     · rw[if_neg c4]at e
       by_cases c2:b=k
       · rw[if_pos c2]at e
         exact absurd (i2 e.symm) c4
       · rw[if_neg c2]at e
         by_cases c3:a=k
         · rw[if_pos c3]at e
           exact absurd (i4 e.symm) c1
         · rw[if_neg c3]at e
           exact i6 e
theorem afi (o:List Int) (i k:Nat) (hk:k<i) (ho:inR i o) (hi:fK i o):inR (i+1) ((o++[rd o k]).set k (i:Int))/\fK (i+1) ((o++[rd o k]).set k (i:Int)):=by
 obtain⟨p1,p2⟩:=Yq o i ho hi
 have e:((o++[(i:Int)]).set k (rd (o++[(i:Int)]) i)).set i (rd (o++[(i:Int)]) k)=(o++[rd o k]).set k (i:Int):=by
  have last:rd (o++[(i:Int)]) (i:Int)=i:=by
   rw[kE _ _ (by simp[ho.1]),List.getElem_append_right (by rw[ho.1];exact Nat.le_refl _)]
   simp
  have last':∀v:Int,rd (o++[v]) (i:Int)=v:=by
   intro v
   rw[kE _ _ (by simp[ho.1]),List.getElem_append_right (by rw[ho.1];exact Nat.le_refl _)]
   simp
  refine Fq _ _ (by simp) fun j hj=>?_
  have hj':j<i+1:=by simp[ho.1]at hj;omega
  have l1:(o++[(i:Int)]).length=i+1:=by simp[ho.1]
  have l2:(o++[rd o k]).length=i+1:=by simp[ho.1]
  rw[last,FP o _ k (by rw[ho.1];exact hk)]
  by_cases e1:i=j
  · subst e1
    rw[qV _ _ _ (by simp[ho.1]),qa _ _ _ _ (by omega),last']
  · rw[qa _ _ _ _ e1]
    by_cases e2:k=j
    · subst e2
      rw[qV _ _ _ (by omega),qV _ _ _ (by omega)]
    ·rw[qa _ _ _ _ e2,qa _ _ _ _ e2,FP _ _ _ (by rw[ho.1];omega),FP _ _ _ (by rw[ho.1];omega)]
 have:=set_perm (o++[(i:Int)]) (i+1) k i p1 p2 (by omega) (by omega)
 rwa [e]at this
theorem M1 (l:List Int) (h:qh l) (n:Nat) (hn:n<=100):∀(d i:Nat) (o:List Int) (p:Int),n-i=d->i<=n->inR i o->fK i o->0<=p->p+d<=1000->∃(o':List Int),Ev (fun k=>mJ.l0 k n o i l p) (o',p+d)/\inR n o'/\fK n o'
 |0,i,o,p,hd,hi,ho,hoi,hp,hp'=>by
  have:i=n:=by omega
  subst this
  refine⟨o,Ev.s ?_,ho,hoi⟩
  simp only[mJ.l0,show ¬(i:Int)<(i:Int) by omega,if_false]
  exact Ev.const (by simp)
 |d+1,i,o,p,hd,hi,ho,hoi,hp,hp'=>by
  obtain⟨v,hv,v0,v1⟩:=rP l h p hp (by omega) ((i+1:Nat):Int) (by omega) (by omega)
  have w1:i<4611686018427387904:=by omega
  have w2:o.length<17592186044416:=by rw[ho.1];omega
  have w3:o.length=i:=ho.1
  by_cases e:v=(i:Int)
  · obtain⟨q1,q2⟩:=Yq o i ho hoi
    obtain⟨o',r1,r2,r3⟩:=M1 l h n hn d (i+1) _ (p+1) (by omega) (by omega) q1 q2 (by omega) (by omega)
    refine⟨o',Ev.s ?_,r2,r3⟩
    simp only[mJ.l0,show(i:Int)<(n:Int) by omega,if_true,fz w1]
    refine Ev.bind hv ?_
    simp only[e,w2,if_true]
    rw[show p+((d+1:Nat):Int)=p+1+d by omega]
    exact r1
  · obtain⟨q1,q2⟩:=afi o i v.toNat (by omega) ho hoi
    obtain⟨o',r1,r2,r3⟩:=M1 l h n hn d (i+1) _ (p+1) (by omega) (by omega) q1 q2 (by omega) (by omega)
    rw[show((v.toNat:Nat):Int)=v by omega]at r1
    have w4:v<(i:Int):=by omega
    have w5:v<((o++[rd o v]).length:Int):=by simp[w3];omega
    refine⟨o',Ev.s ?_,r2,r3⟩
    simp only[mJ.l0,show(i:Int)<(n:Int) by omega,if_true,fz w1]
    refine Ev.bind hv ?_
    simp only[e,if_false,v0,w3,w4,w2,if_true,Option.bind_some,w5]
    rw[show p+((d+1:Nat):Int)=p+1+d by omega]
    rw[w3]at w2
    simp only[w2,if_true,w5]
    exact r1
theorem Oc (l:List Int) (h:qh l) (n:Nat) (hn:n<=100) (p:Int) (hp:0<=p) (hp':p<=500):∃(o:List Int),Ev (fun k=>mJ.f k l p n) (o,p+n)/\inR n o/\fK n o:=by
 unfold mJ.f
 have:=M1 l h n hn n 0 [] p (by omega) (by omega) ⟨rfl,fun i hi=>by omega⟩ (fun i j hi _ _=>by omega) hp (by omega)
 exact this
def paired (n:Nat) (q g:List Int) (i:Nat):Prop:=inR n g/\∀j:Nat,2*j+1<i->rd g (rd q ((2*j:Nat):Int))=rd q ((2*j+1:Nat):Int)/\rd g (rd q ((2*j+1:Nat):Int))=rd q ((2*j:Nat):Int)
theorem FA {a b:Int} (ha:0<=a) (hb:0<=b) (h:a.toNat=b.toNat):a=b:=by omega
theorem ahx (n:Nat) (q g:List Int) (hq:inR n q) (hqi:fK n q) (i:Nat) (hi:2*i+1<n) (h:paired n q g (2*i)):
 paired n q ((g.set (rd q ((2*i:Nat):Int)).toNat (rd q ((2*i+1:Nat):Int))).set (rd q ((2*i+1:Nat):Int)).toNat (rd q ((2*i:Nat):Int))) (2*i+2):=by
 have ra:=hq.2 (2*i) (by omega)
 have rb:=hq.2 (2*i+1) (by omega)
 have ne:(rd q ((2*i:Nat):Int)).toNat≠(rd q ((2*i+1:Nat):Int)).toNat:=by
  intro e
  have:=hqi (2*i) (2*i+1) (by omega) (by omega) (FA ra.1 rb.1 e)
  omega
 have val:∀x:Nat,x<n->rd ((g.set (rd q ((2*i:Nat):Int)).toNat (rd q ((2*i+1:Nat):Int))).set (rd q ((2*i+1:Nat):Int)).toNat (rd q ((2*i:Nat):Int))) (x:Int)=if(rd q ((2*i+1:Nat):Int)).toNat=x then rd q ((2*i:Nat):Int)else if(rd q ((2*i:Nat):Int)).toNat=x then rd q ((2*i+1:Nat):Int)else rd g x:=by
  intro x hx
  by_cases e1:(rd q ((2*i+1:Nat):Int)).toNat=x
  ·rw[if_pos e1,<-e1,qV _ _ _ (by rw[List.length_set,h.1.1];omega)]
  · rw[qa _ _ _ _ e1,if_neg e1]
    by_cases e2:(rd q ((2*i:Nat):Int)).toNat=x
    ·rw[if_pos e2,<-e2,qV _ _ _ (by rw[h.1.1];omega)]
    ·rw[qa _ _ _ _ e2,if_neg e2]
 refine⟨⟨by simp[h.1.1],fun x hx=>?_⟩,fun j hj=>?_⟩
 · rw[val x hx]
   have:=h.1.2 x hx
   split
   ·exact ra
   · split
     ·exact rb
     ·exact this
 · have sa:=hq.2 (2*j) (by omega)
   have sb:=hq.2 (2*j+1) (by omega)
   have ea:(((rd q ((2*j:Nat):Int)).toNat:Nat):Int)=rd q ((2*j:Nat):Int):=by omega
   have eb:(((rd q ((2*j+1:Nat):Int)).toNat:Nat):Int)=rd q ((2*j+1:Nat):Int):=by omega
   rw[<-ea,<-eb,val _ (by omega),val _ (by omega),ea,eb]
   by_cases z:j=i
   · subst z
     rw[if_neg (fun e=>ne e.symm),if_pos rfl,if_pos rfl]
     exact⟨rfl,rfl⟩
   · have old:=h.2 j (by omega)
     have n1:(rd q ((2*i+1:Nat):Int)).toNat≠(rd q ((2*j:Nat):Int)).toNat:=fun e=>by
      have:=hqi (2*i+1) (2*j) (by omega) (by omega) (FA rb.1 sa.1 e)
      omega
     have n2:(rd q ((2*i:Nat):Int)).toNat≠(rd q ((2*j:Nat):Int)).toNat:=fun e=>by
      have:=hqi (2*i) (2*j) (by omega) (by omega) (FA ra.1 sa.1 e)
      omega
     have n3:(rd q ((2*i+1:Nat):Int)).toNat≠(rd q ((2*j+1:Nat):Int)).toNat:=fun e=>by
      have:=hqi (2*i+1) (2*j+1) (by omega) (by omega) (FA rb.1 sb.1 e)
      omega
     have n4:(rd q ((2*i:Nat):Int)).toNat≠(rd q ((2*j+1:Nat):Int)).toNat:=fun e=>by
      have:=hqi (2*i) (2*j+1) (by omega) (by omega) (FA ra.1 sb.1 e)
      omega
     rw[if_neg n1,if_neg n2,if_neg n3,if_neg n4]
     exact old
theorem ahZ (n m:Nat) (hm:n=2*m) (q g:List Int) (hq:inR n q) (hqi:fK n q) (h:paired n q g n):∀d:Nat,d<n->qO g d:=by
 intro d hd
 obtain⟨j,hj,e⟩:=surj q n hq hqi d hd
 have rep:∃i,(j=2*i\/j=2*i+1)/\2*i+1<n:=by
  refine⟨j/2,by omega,by omega⟩
 obtain⟨i,hj',hi⟩:=rep
 have o:=h.2 i hi
 have ne:rd q ((2*i:Nat):Int)≠rd q ((2*i+1:Nat):Int):=by
  intro e
  have:=hqi (2*i) (2*i+1) (by omega) (by omega) e
  omega
 rcases hj' with rfl|rfl
 · rw[e]at o ne
   unfold qO
   rw[o.1]
   exact⟨fun z=>ne z.symm,o.2⟩
 · rw[e]at o ne
   unfold qO
   rw[o.2]
   exact⟨ne,o.1⟩
def Yo (F:Nat->Option (List Int×List Int×Int)) (p:Int):Prop:=∃(t f:List Int) (p':Int),Ev F (t,f,p')/\t.length<=12/\f.length<=12/\0<=p'/\p'<=p+1
theorem XD (l:List Int) (h:qh l) (n:Nat) (h1:1<=n) (hn:n<=12) (i:Int) (p:Int) (hp:0<=p) (hp':p<=500) (t f:List Int) (ht:t.length=n) (hf:f.length=n):Yo (fun k=>cX.j2 k n i false l p t f) p:=by
 obtain⟨v,hv,v0,v1⟩:=rP l h p hp (by omega) 50 (by omega) (by omega)
 have g1:(0:Int)<(f.length:Int):=by omega
 have g2:(1:Int)<=(t.length:Int):=by omega
 have g3:(0:Int)<(t.length:Int):=by omega
 by_cases c0:v=0
 · refine⟨t,f.set 0 0,p+1,Ev.s ?_,by omega,by simp;omega,by omega,by omega⟩
   simp only[cX.j2,Bool.false_eq_true,if_false]
   refine Ev.bind hv ?_
   simp only[c0,g1,if_true]
   exact Ev.const rfl
 · by_cases c1:v=1
   · refine⟨t.drop 1,f,p+1,Ev.s ?_,by simp;omega,by omega,by omega,by omega⟩
     simp only[cX.j2,Bool.false_eq_true,if_false]
     refine Ev.bind hv ?_
     simp only[c0,c1,g2,show ¬(1:Int)=0 by decide,if_true,if_false]
     exact Ev.const rfl
   · by_cases c2:v=2
     · refine⟨t.set 0 n,f,p+1,Ev.s ?_,by simp;omega,by omega,by omega,by omega⟩
       simp only[cX.j2,Bool.false_eq_true,if_false]
       refine Ev.bind hv ?_
       simp only[c2,g3,show ¬(2:Int)=0 by decide,show ¬(2:Int)=1 by decide,if_true,if_false]
       exact Ev.const rfl
     · refine⟨t,f,p+1,Ev.s ?_,by omega,by omega,by omega,by omega⟩
       simp only[cX.j2,Bool.false_eq_true,if_false]
       refine Ev.bind hv ?_
       simp only[c0,c1,c2,if_false]
       exact Ev.const rfl
theorem V0 (n:Nat) (hn:n<=12) (o:List Int) (ho:o.length=n) (i:Int) (l:List Int) (p:Int) (t f:List Int) (ht:t.length=n) (z:Nat) (hz:z<n) (hz0:rd o z≠0) (hz1:∀y:Nat,y<z->rd o y=0) (r:List Int×List Int×Int)
 (h:Ev (fun k=>cX.l1 k n (wrap64 (i+1)) l p ((t.set 0 (rd t (z:Int))).set z (rd t 0)) f) r):∀(d y:Nat),z-y=d->y<=z->Ev (fun k=>cX.l2 k n i o y l p t f) r
 |0,y,hd,hy=>by
  have:y=z:=by omega
  subst this
  refine Ev.s ?_
  simp only[cX.l2,ho,ht,show(0:Int)<=(y:Int) by omega,show(y:Int)<(n:Int) by omega,hz0,show(0:Int)<(n:Int) by omega,if_true,if_false,Int.toNat_natCast]
  exact h
 |d+1,y,hd,hy=>by
  refine Ev.s ?_
  simp only[cX.l2,ho,show(0:Int)<=(y:Int) by omega,show(y:Int)<(n:Int) by omega,hz1 y (by omega),if_true,fz (show y<4611686018427387904 by omega)]
  exact V0 n hn o ho i l p t f ht z hz hz0 hz1 r h d (y+1) (by omega) (by omega)
theorem VN (l:List Int) (h:qh l) (n:Nat) (h1:1<=n) (hn:n<=12) (f:List Int) (hf:inR n f) (hfl:∀d:Nat,d<n->qO f d) (p:Int) (hp:0<=p) (hp':p<=500):∀(d i:Nat) (t:List Int),n-i=d->i<=n->inR n t->fK n t->Yo (fun k=>cX.l1 k n i l p t f) p
 |0,i,t,hd,hi,ht,hti=>by
  have:i=n:=by omega
  subst this
  obtain⟨a,b,c,e1,e2⟩:=XD l h i h1 hn i p hp hp' t f ht.1 hf.1
  refine⟨a,b,c,Ev.s ?_,e2⟩
  simp only[cX.l1,show ¬(i:Int)<(i:Int) by omega,if_false]
  exact e1
 |d+1,i,t,hd,hi,ht,hti=>by
  obtain⟨b,b1,_,b3⟩:=AL t f (by rw[ht.1];omega) (by rw[hf.1];omega)
  cases b with
  |true=>
   obtain⟨a,b',c,e1,e2⟩:=XD l h n h1 hn i p hp hp' t f ht.1 hf.1
   refine⟨a,b',c,Ev.s ?_,e2⟩
   simp only[cX.l1,show(i:Int)<(n:Int) by omega,if_true]
   refine Ev.bind b1 ?_
   exact e1
  |false=>
   obtain⟨o,o1,o2,_⟩:=V4 t f n hn h1 ht hf
   have nz:∃z,z<n/\rd o (z:Int)≠0:=by
    by_cases q:∃z,z<n/\rd o ((z:Nat):Int)≠0
    ·exact q
    · exfalso
      have akC:∀q:Nat,q<n->rd o q=0:=fun z hz=>by
       by_cases e:rd o (z:Int)=0
       ·exact e
       ·exact absurd ⟨z,hz,e⟩ q
      have hc:=(VY t f n h1 ht hf o o1).1 akC
      have hm:isMap t f:=Oa ⟨hn,h1,ht,hti,hf,hfl,hc⟩
      have:=b3.2 hm
      cases this
   have least:∃z,z<n/\rd o (z:Int)≠0/\∀y:Nat,y<z->rd o y=0:=by
    obtain⟨z,hz,hz0⟩:=nz
    induction z using Nat.strongRecOn with
    |ind z ih=>
     by_cases q:∃y,y<z/\rd o ((y:Nat):Int)≠0
     · obtain⟨y,y1,y2⟩:=q
       exact ih y y1 (by omega) y2
     ·exact⟨z,hz,hz0,fun y hy=>by
             by_cases e:rd o (y:Int)=0
             ·exact e
             ·exact absurd ⟨y,hy,e⟩ q⟩
   obtain⟨z,hz,hz0,hz1⟩:=least
   obtain⟨q1,q2⟩:=set_perm t n 0 z ht hti (by omega) hz
   obtain⟨a,b',c,e1,e2⟩:=VN l h n h1 hn f hf hfl p hp hp' d (i+1) _ (by omega) (by omega) q1 q2
   refine⟨a,b',c,Ev.s ?_,e2⟩
   simp only[cX.l1,show(i:Int)<(n:Int) by omega,if_true]
   refine Ev.bind b1 ?_
   refine Ev.s ?_
   simp only[cX.j2,Bool.not_false,if_true]
   refine Ev.bind o2 ?_
   refine V0 n hn o o1.1.1 i l p t f ht.1 z hz hz0 hz1 _ ?_ z 0 (by omega) (by omega)
   rw[fz (by omega)]
   exact e1
theorem YZ (l:List Int) (h:qh l) (n m:Nat) (hm:n=2*m) (h1:1<=m) (hn:n<=12) (q:List Int) (hq:inR n q) (hqi:fK n q) (p:Int) (hp:0<=p) (hp':p<=400):∀(d i:Nat) (g:List Int),m-i=d->i<=m->paired n q g (2*i)->∃(t f:List Int) (p':Int),Ev (fun k=>cX.l0 k n q g ((2*i:Nat):Int) l p) (t,f,p')/\t.length<=12/\f.length<=12/\0<=p'/\p'<=p+13
 |0,i,g,hd,hi,hg=>by
  have:i=m:=by omega
  subst this
  rw[<-hm]at hg
  obtain⟨t,t1,t2,t3⟩:=Oc l h n (by omega) p hp (by omega)
  obtain⟨a,b,c,e1,e2,e3,e4,e5⟩:=VN l h n (by omega) hn g hg.1 (ahZ n i hm q g hq hqi hg) (p+n) (by omega) (by omega) n 0 t (by omega) (by omega) t2 t3
  refine⟨a,b,c,Ev.s ?_,e2,e3,e4,by omega⟩
  have w:i<1000:=by omega
  simp only[cX.l0,fz (show 2*i<4611686018427387904 by omega),show ¬((2*i+1:Nat):Int)<(n:Int) by omega,if_false]
  exact Ev.bind t1 e1
 |d+1,i,g,hd,hi,hg=>by
  have ra:=hq.2 (2*i) (by omega)
  have rb:=hq.2 (2*i+1) (by omega)
  obtain⟨a,b,c,e1,e2⟩:=YZ l h n m hm h1 hn q hq hqi p hp hp' d (i+1) _ (by omega) (by omega) (ahx n q g hq hqi i (by omega) hg)
  refine⟨a,b,c,Ev.s ?_,e2⟩
  have w2:wrap64 (((2*i:Nat):Int)+2)=((2*(i+1):Nat):Int):=by rw[w64 (by omega) (by omega)];omega
  simp only[cX.l0,fz (show 2*i<4611686018427387904 by omega),show((2*i+1:Nat):Int)<(n:Int) by omega,show(0:Int)<=((2*i:Nat):Int) by omega,show(0:Int)<=((2*i+1:Nat):Int) by omega,hq.1,show((2*i:Nat):Int)<(n:Int) by omega,hg.1.1,ra.1,ra.2,rb.1,rb.2,if_true,w2]
  exact e1
theorem Ye (l:List Int) (h:qh l) (p:Int) (hp:0<=p) (hp':p<=200) (edges:Nat) (h1:1<=edges) (h6:edges<=6):∃(t f:List Int) (p':Int),Ev (fun k=>cX.f k l p edges) (t,f,p')/\t.length<=12/\f.length<=12/\0<=p'/\p'<=p+100:=by
 obtain⟨v,hv,v0,v1⟩:=rP l h p hp (by omega) (edges:Int) (by omega) (by omega)
 obtain⟨V,rfl⟩:∃V:Nat,v=(V:Int):=⟨v.toNat,by omega⟩
 obtain⟨q,q1,q2,q3⟩:=Oc l h (2*(1+V)) (by omega) (p+1) (by omega) (by omega)
 have rep:paired (2*(1+V)) q (List.replicate (2*(1+V)) 0) (2*0):=by
  refine⟨⟨by simp,fun i hi=>?_⟩,fun j hj=>by omega⟩
  rw[kE _ _ (by simpa using hi)]
  simp
  omega
 obtain⟨a,b,c,e1,e2,e3,e4,e5⟩:=YZ l h (2*(1+V)) (1+V) rfl (by omega) (by omega) q q2 q3 (p+1+((2*(1+V):Nat):Int)) (by omega) (by omega) (1+V) 0 _ (by omega) (by omega) rep
 refine⟨a,b,c,?_,e2,e3,e4,by omega⟩
 unfold cX.f
 refine Ev.bind hv ?_
 have w1:wrap64 (1+(V:Int))=((1+V:Nat):Int):=by rw[w64 (by omega) (by omega)];omega
 have w2:wrap64 (2*((1+V:Nat):Int))=((2*(1+V):Nat):Int):=by rw[w64 (by omega) (by omega)];omega
 simp only[w1,w2]
 refine Ev.bind q1 ?_
 simp only[show(0:Int)<=((2*(1+V):Nat):Int) by omega,Int.toNat_natCast,show 2*(1+V)<=35184372088832 by omega,if_true]
 exact e1
end Go.Proofs.Ytlpbalebodlipaa.PL
namespace Go.Proofs.Ytlpbalebodlipaa.PL
open Go.RowKit Go.Proofs.YtlpbalebodlipaaW.PrintWords Go.Proofs.YtlpbalebodlipaaW.PrintLast Go.Proofs.YtlpbalebodlipaaW.PrintMore
attribute [local go_sem] tH tW tL tB tJ tE tM tP
set_option linter.unusedVariables false
set_option linter.unusedSimpArgs false
mutual
def j7.l0:Nat->ByteArray->List Int->Int->Option Bool
 |0,_,_,_=>none
 |k+1,s,l,i=>if i<(l.length:Int)then(if 0<=i then(if rd l i< -1 then(some false)else(if rd l i>1 then(some false)else(j7.l0 k s l (wrap64 (i+1)))))else none)else(j7.l1 k s 0 0)
def j7.l1:Nat->ByteArray->Nat->Int->Option Bool
 |0,_,_,_=>none
 |k+1,s,p,g=>if p<s.size then(if bt s p=40 then(if wrap64 (g+1)<0 then(some false)else(j7.l1 k s (p+1) (wrap64 (g+1))))else(if bt s p=41 then(if wrap64 (g-1)<0 then(some false)else(j7.l1 k s (p+1) (wrap64 (g-1))))else(some false)))else(some (g==0))
end
def j7.f (k:Nat) (cr:ByteArray) (ag:List Int):Option Bool:=if(ag.length:Int)<1 then(some false)else(if(ag.length:Int)>3 then(some false)else(if(cr.size:Int)=wrap64 (2*(ag.length:Int))then(j7.l0 k cr ag 0)else(some false)))
end Go.Proofs.Ytlpbalebodlipaa.PL
