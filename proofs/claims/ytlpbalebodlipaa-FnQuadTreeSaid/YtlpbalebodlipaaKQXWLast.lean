/- A part of the proof of FnQuadTree. There are no conditions. -/
import Derived.OrdersHeld
import Derived.Deep.RegionHeld3
import Derived.Laws.BitsLemmas
import Derived.RowKit
namespace Go.Proofs.YtlpbalebodlipaaW.PrintLast
section
variable {P:Program} {D:Array Oper} {Q:Exit->Act->World->Prop} {md:Region.Mode} {S:World->Prop} {ds:List Nat}
def Region.jL(md:Region.Mode)(D:Array Oper)(i:Nat):Nat->Nat->Bool
 |0,_=>false
 |fuel+1,d=>match D[d]? with
  |some o=>o.after.any fun e=>Region.binds md e&&(e.on==i||Region.jL md D i fuel e.on)
  |none=>false
def Region.qp(md:Region.Mode)(D:Array Oper)(listed:Array Bool):Bool:=
 (List.range D.size).all fun j=>!listed.getD j false||match D[j]? with
   |some o=>o.after.all fun e=>!Region.binds md e||listed.getD e.on false
   |none=>true
def Region.lastB(md:Region.Mode)(D:Array Oper)(listed:Array Bool)(ds:List Nat)(i:Nat):Bool:=
 ds.all fun d=>listed.getD d true||Region.jL md D i D.size d
def mJ(md:Region.Mode)(D:Array Oper)(listed:Array Bool):Prop:=
 ∀j oj,D[j]?=some oj->listed.getD j false=true->∀e∈oj.after,Region.binds md e=true->listed.getD e.on false=true
theorem Region.G5{listed:Array Bool}(h:Region.qp md D listed=true):mJ md D listed:=by
 intro j oj hj hl e he hb;have hlt:j<D.size:=(Array.getElem?_eq_some_iff.1 hj).1;have h1:=List.all_eq_true.1 h j (List.mem_range.2 hlt);simp only[hl,hj,Bool.not_true,Bool.false_or]at h1;have h2:=Array.all_eq_true_iff_forall_mem.1 h1 e he;simpa [hb]using h2
theorem mJ.set{listed:Array Bool}{i:Nat}(h:mJ md D listed)(hi:i∈Region.ready md D listed):mJ md D (listed.setIfInBounds i true):=by
 obtain⟨_,oi,hoi,hall⟩:=mem_ready.1 hi;intro j oj hj hl e he hb;by_cases hij:i=j
 · subst hij
   have:oj=oi:=Option.some.inj (hj.symm.trans hoi);subst this;exact getD_set_true (hall e he hb)
 · rw[getD_set_ne false hij]at hl
   exact getD_set_true (h j oj hj hl e he hb)
theorem Region.xH{listed:Array Bool}{i:Nat}(hc:mJ md D listed):∀(fuel d:Nat),Region.jL md D i fuel d=true->listed.getD d false=true->listed.getD i false=true
 |0,_,h,_=>by simp[Region.jL]at h
 |fuel+1,d,h,hl=>by
  unfold Region.jL at h;cases ho:D[d]? with
  |none=>rw[ho]at h;simp at h
  |some o=>
   rw[ho]at h;obtain⟨e,he,h1⟩:=Array.any_eq_true'.1 h;simp only[Bool.and_eq_true,Bool.or_eq_true,beq_iff_eq]at h1;have T:=hc d o ho hl e he h1.1;rcases h1.2 with h2|h2
   ·rw[<-h2];exact T
   ·exact Region.xH hc fuel e.on h2 T
theorem Region.Fu{listed:Array Bool}{i d fuel:Nat}(hc:mJ md D listed)(hr:Region.jL md D i fuel d=true)(f:listed.getD i true=false):d∉Region.ready md D listed:=by
 intro hd;obtain⟨_,o,ho,hall⟩:=mem_ready.1 hd
 have hi:listed.getD i false=true:=by
  cases fuel with
  |zero=>simp[Region.jL]at hr
  |succ n=>
   unfold Region.jL at hr;rw[ho]at hr;obtain⟨e,he,h1⟩:=Array.any_eq_true'.1 hr;simp only[Bool.and_eq_true,Bool.or_eq_true,beq_iff_eq]at h1;have T:=hall e he h1.1;rcases h1.2 with h2|h2
   ·rw[<-h2];exact T
   ·exact Region.xH hc n e.on h2 T
 rcases Nat.lt_or_ge i listed.size with h'|h'
 · simp[h']at f hi
   rw[f]at hi;cases hi
 ·simp[Array.getElem?_eq_none h']at f
def bG(P:Program)(md:Region.Mode)(D:Array Oper)(Q:Exit->Act->World->Prop)(S:World->Prop)(ds:List Nat):Nat->Array Bool->Act->World->Prop
 |0,listed,a,w=>Region.ready md D listed=[]/\Q .normal a w
 |fuel+1,listed,a,w=>
  (Region.ready md D listed=[]->Q .normal a w)/\
  ∀i∈Region.ready md D listed,wpOp P D Q i (fun a' w'=>(i∉ds->S w->S w')/\bG P md D Q S ds fuel (listed.setIfInBounds i true) a' w') a w
theorem xL:∀(fuel:Nat) (listed:Array Bool) (a:Act) (w:World),bG P md D Q S ds fuel listed a w->wpAny P md D Q fuel listed a w
 |0,_,_,_,h=>h
 |fuel+1,_,_,_,h=>⟨h.1,fun i hi=>wpOp_mono (fun a' w' h'=>xL fuel _ a' w' h'.2) (h.2 i hi)⟩
theorem Ht{i:Nat}{oi:Oper}{v:Value}(hi:D[i]?=some oi)(t:∀(j:Nat) (o:Oper) cs b,D[j]?=some o->o.op≠ .select cs b)
 (hQ:∀c a w,Q (.panic c) (a.put oi.dst v) w->Q (.panic c) a w)(n:Nat):
 ∀(fuel:Nat) (listed:Array Bool) (a:Act) (w:World),
  (∀j oj,D[j]?=some oj->j≠i->listed.getD j true=false->(∀e∈oj.after,Region.binds md e=true->e.on≠i)->oi.apart D oj=true)->
  mJ md D listed->(∀d∈ds,listed.getD d true=false->Region.jL md D i n d=true)->
  i∈Region.ready md D listed->YieldsIf P D S oi v a->S w->
  bG P md D Q S ds fuel (listed.setIfInBounds i true) (a.put oi.dst v) w->bG P md D Q S ds (fuel+1) listed a w:=by
 intro fuel
 induction fuel with
 |zero=>
  intro listed a w _ _ _ hr hy hS H;refine⟨fun h=>(by rw[h]at hr;cases hr),fun j hj=>?_⟩;by_cases hji:j=i
  ·subst hji;exact hy.wpOp hi hS ⟨fun _ h=>h,H⟩
  · have:=ready_mono hj hji
    rw[H.1]at this;cases this
 |succ fuel ih=>
  intro listed a w q hc hd hr hy hS H;refine⟨fun h=>(by rw[h]at hr;cases hr),fun j hj=>?_⟩;by_cases hji:j=i
  ·subst hji;exact hy.wpOp hi hS ⟨fun _ h=>h,H⟩
  · have h1:=H.2 j (ready_mono hj hji)
    obtain⟨l,oj,g,hall⟩:=mem_ready.1 hj;have m:=(mem_ready.1 hr).1
    have u:∀e∈oj.after,Region.binds md e=true->e.on≠i:=fun e he hb y=>by
     have h1:=hall e he hb;rw[y]at h1;rcases Nat.lt_or_ge i listed.size with h'|h'
     ·simp[h']at m h1;rw[m]at h1;cases h1
     ·simp[Array.getElem?_eq_none h']at h1
    have A:j∉ds:=fun hm=>Region.Fu hc (hd j hm l) m hj
    have h2:=wpOp_putIf g (q j oj g hji l u) (fun cs b=>t i oi cs b hi) (fun cs b=>t j oj cs b g) hQ hy h1
    have x:∀k ok,D[k]?=some ok->k≠i->(listed.setIfInBounds j true).getD k true=false->
     (∀e∈ok.after,Region.binds md e=true->e.on≠i)->oi.apart D ok=true:=fun k ok hk z f r=>by
     refine q k ok hk z ?_ r;by_cases hjk:j=k
     ·subst hjk;exact l
     ·rw[getD_set_ne true hjk]at f;exact f
    have s:∀d∈ds,(listed.setIfInBounds j true).getD d true=false->Region.jL md D i n d=true:=fun d hm f=>by
     refine hd d hm ?_;by_cases hjk:j=d
     ·subst hjk;exact l
     ·rw[getD_set_ne true hjk]at f;exact f
    refine wpOp_mono (fun a' w' h3=>⟨h3.2.1,ih (listed.setIfInBounds j true) a' w' x (hc.set hj) s (ready_mono hr (Ne.symm hji)) h3.1 (h3.2.1 A hS) ?_⟩) h2;rw[Array.setIfInBounds_comm _ _ hji];exact h3.2.2
theorem HU{i:Nat}{oi:Oper}{v:Value}(hi:D[i]?=some oi)(t:∀(j:Nat) (o:Oper) cs b,D[j]?=some o->o.op≠ .select cs b)
 (hQ:∀c a w,Q (.panic c) (a.put oi.dst v) w->Q (.panic c) a w):
 ∀(fuel:Nat) (listed:Array Bool) (a:Act) (w:World),
  (∀j oj,D[j]?=some oj->j≠i->listed.getD j true=false->(∀e∈oj.after,Region.binds md e=true->e.on≠i)->oi.apart D oj=true)->
  i∈Region.ready md D listed->Yields P D oi v a->
  bG P md D Q S ds fuel (listed.setIfInBounds i true) (a.put oi.dst v) w->bG P md D Q S ds (fuel+1) listed a w:=by
 intro fuel
 induction fuel with
 |zero=>
  intro listed a w _ hr hy H;refine⟨fun h=>(by rw[h]at hr;cases hr),fun j hj=>?_⟩;by_cases hji:j=i
  ·subst hji;exact(hy.yieldsIf (S:=fun _=>True)).wpOp hi trivial ⟨fun _ h=>h,H⟩
  · have:=ready_mono hj hji
    rw[H.1]at this;cases this
 |succ fuel ih=>
  intro listed a w q hr hy H;refine⟨fun h=>(by rw[h]at hr;cases hr),fun j hj=>?_⟩;by_cases hji:j=i
  ·subst hji;exact(hy.yieldsIf (S:=fun _=>True)).wpOp hi trivial ⟨fun _ h=>h,H⟩
  · have h1:=H.2 j (ready_mono hj hji)
    obtain⟨l,oj,g,hall⟩:=mem_ready.1 hj;have m:=(mem_ready.1 hr).1
    have u:∀e∈oj.after,Region.binds md e=true->e.on≠i:=fun e he hb y=>by
     have h1:=hall e he hb;rw[y]at h1;rcases Nat.lt_or_ge i listed.size with h'|h'
     ·simp[h']at m h1;rw[m]at h1;cases h1
     ·simp[Array.getElem?_eq_none h']at h1
    have h2:=wpOp_put g (q j oj g hji l u) (fun cs b=>t i oi cs b hi) (fun cs b=>t j oj cs b g) hQ hy h1
    have x:∀k ok,D[k]?=some ok->k≠i->(listed.setIfInBounds j true).getD k true=false->
     (∀e∈ok.after,Region.binds md e=true->e.on≠i)->oi.apart D ok=true:=fun k ok hk z f r=>by
     refine q k ok hk z ?_ r;by_cases hjk:j=k
     ·subst hjk;exact l
     ·rw[getD_set_ne true hjk]at f;exact f
    refine wpOp_mono (fun a' w' h3=>⟨h3.2.1,ih (listed.setIfInBounds j true) a' w' x (ready_mono hr (Ne.symm hji)) h3.1 ?_⟩) h2;rw[Array.setIfInBounds_comm _ _ hji];exact h3.2.2
theorem Fj{i:Nat}{oi:Oper}{v:Value}{fuel:Nat}{listed:Array Bool}{a:Act}{w:World}(hi:D[i]?=some oi)
 (hs:Region.noSelect D=true)(hf:Region.free md D listed i=true)(hr:(Region.ready md D listed).contains i=true)
 (hc:Region.qp md D listed=true)(hl:Region.lastB md D listed ds i=true)
 (hQ:∀c a w,Q (.panic c) (a.put oi.dst v) w->Q (.panic c) a w)(hy:YieldsIf P D S oi v a)(hS:S w)
 (h:bG P md D Q S ds fuel (listed.setIfInBounds i true) (a.put oi.dst v) w):bG P md D Q S ds (fuel+1) listed a w:=
 Ht hi (Region.noSelect_spec hs) hQ D.size fuel listed a w (Region.free_spec hi hf) (Region.G5 hc)
  (fun d hm f=>by have:=List.all_eq_true.1 hl d hm;rw[f]at this;simpa using this) (by simpa using hr) hy hS h
theorem HY{rs:List Nat}{fuel:Nat}{listed:Array Bool}{a:Act}{w:World}(hr:Region.ready md D listed=rs)(B:rs≠[])
 (h:∀i∈rs,wpOp P D Q i (fun a' w'=>(i∉ds->S w->S w')/\bG P md D Q S ds fuel (listed.setIfInBounds i true) a' w') a w):bG P md D Q S ds (fuel+1) listed a w:=
 ⟨fun h0=>absurd (hr▸h0) B,hr▸h⟩
theorem Gb{listed:Array Bool}{a:Act}{w:World}(hr:Region.ready md D listed=[])(h:Q .normal a w):
 ∀fuel,bG P md D Q S ds fuel listed a w
 |0=>⟨hr,h⟩
 |_+1=>⟨fun _=>h,by rw[hr];simp⟩
theorem IB{id:Nat}{a:Act}{w:World}(hm:P.follows .mixedOrders=true)
 (h:bG P .any D Q S ds D.size (Array.replicate D.size false) a {w with drawn:=w.drawn+1}):(Code.region id D true).wp P Q a w:=
 wp_region_any hm (xL _ _ _ _ h)
end
section
variable {P:Program} {D:Array Oper} {Q:Exit->Act->World->Prop} {md:Region.Mode} {S:World->Prop} {ds:List Nat}
def fK(P:Program)(md:Region.Mode)(D:Array Oper)(Q:Exit->Act->World->Prop)(S:World->Prop)(ds:List Nat)(fuel:Nat)(listed:Array Bool)(a:Act)(w:World)(rs:List Nat):Prop:=
 ∀i∈rs,wpOp P D Q i (fun a' w'=>(i∉ds->S w->S w')/\bG P md D Q S ds fuel (listed.setIfInBounds i true) a' w') a w
theorem fK.nil{fuel:Nat}{listed:Array Bool}{a:Act}{w:World}:fK P md D Q S ds fuel listed a w []:=fun _ h=>by cases h
theorem fK.cons{fuel:Nat}{listed:Array Bool}{a:Act}{w:World}{i:Nat}{o:Oper}{rs:List Nat}(ho:D[i]?=some o)(hd:i∉ds)
 (h:∀K':Act->World->Prop,Shut (∀a w,S w->(S w->bG P md D Q S ds fuel (listed.setIfInBounds i true) a w)->K' a w)->if Region.wanted o (yielded D a.tmps)=true then Oper.wp P o a w K' Q else K' (a.put o.dst undef) w)
 (hs:fK P md D Q S ds fuel listed a w rs):fK P md D Q S ds fuel listed a w (i::rs):=fun j hj=>by
 rcases List.mem_cons.1 hj with rfl|hj
 ·exact wpOp_step ho (fun K' hK=>h K' (fun a w hS hW=>hK a w ⟨fun _ _=>hS,hW hS⟩))
 ·exact hs j hj
theorem fK.Gq{fuel:Nat}{listed:Array Bool}{a:Act}{w:World}{i:Nat}{o:Oper}{rs:List Nat}(ho:D[i]?=some o)(hd:i∈ds)
 (h:∀K':Act->World->Prop,Shut (∀a w,bG P md D Q S ds fuel (listed.setIfInBounds i true) a w->K' a w)->if Region.wanted o (yielded D a.tmps)=true then Oper.wp P o a w K' Q else K' (a.put o.dst undef) w)
 (hs:fK P md D Q S ds fuel listed a w rs):fK P md D Q S ds fuel listed a w (i::rs):=fun j hj=>by
 rcases List.mem_cons.1 hj with rfl|hj
 ·exact wpOp_step ho (fun K' hK=>h K' (fun a w hW=>hK a w ⟨fun hn=>absurd hd hn,hW⟩))
 ·exact hs j hj
theorem ru{rs:List Nat}{fuel:Nat}{listed:Array Bool}{a:Act}{w:World}(hr:Region.ready md D listed=rs)(B:rs≠[])
 (h:fK P md D Q S ds fuel listed a w rs):bG P md D Q S ds (fuel+1) listed a w:=HY hr B h
theorem cA{id n:Nat}{a:Act}{w:World}(l:Array Bool)(hm:P.follows .mixedOrders=true)(hn:D.size=n)(hl:Array.replicate n false=l)(hS:S w.drew)
 (h:S w.drew->bG P .any D Q S ds n l a w.drew):(Code.region id D true).wp P Q a w:=by
 subst hn;subst hl;exact IB hm (h hS)
def takeB(md:Region.Mode)(D:Array Oper)(ds:List Nat)(l l':Array Bool)(i:Nat):Bool:=
 Region.noSelect D&&Region.free md D l i&&(Region.ready md D l).contains i&&Region.qp md D l&&Region.lastB md D l ds i&&(l.setIfInBounds i true==l')
theorem pC{i:Nat}{N:Option Tmp}{oi:Oper}{v:Value}{fuel:Nat}{l:Array Bool}{a:Act}{w:World}(l':Array Bool)(hi:D[i]?=some oi)(hN:oi.dst=N)(hc:takeB md D ds l l' i=true)
 (hQ:∀c a w,Q (.panic c) (a.put oi.dst v) w->Q (.panic c) a w)(hy:YieldsIf P D S oi v a)(hS:S w){a':Act}(ha:a.put N v=a')
 (h:bG P md D Q S ds fuel l' a' w):bG P md D Q S ds (fuel+1) l a w:=by
 subst ha;subst hN;simp only[takeB,Bool.and_eq_true,beq_iff_eq]at hc;obtain⟨⟨⟨⟨⟨h1,h2⟩,h3⟩,h4⟩,h5⟩,h6⟩:=hc;subst h6;exact Fj hi h1 h2 h3 h4 h5 hQ hy hS h
def nG(md:Region.Mode)(D:Array Oper)(l l':Array Bool)(i:Nat):Bool:=
 Region.noSelect D&&Region.free md D l i&&(Region.ready md D l).contains i&&(l.setIfInBounds i true==l')
theorem uI{i:Nat}{N:Option Tmp}{oi:Oper}{v:Value}{fuel:Nat}{l:Array Bool}{a:Act}{w:World}(l':Array Bool)(hi:D[i]?=some oi)(hN:oi.dst=N)(hc:nG md D l l' i=true)
 (hQ:∀c a w,Q (.panic c) (a.put oi.dst v) w->Q (.panic c) a w)(hy:Yields P D oi v a){a':Act}(ha:a.put N v=a')
 (h:bG P md D Q S ds fuel l' a' w):bG P md D Q S ds (fuel+1) l a w:=by
 subst ha;subst hN;simp only[nG,Bool.and_eq_true,beq_iff_eq]at hc;obtain⟨⟨⟨h1,h2⟩,h3⟩,h6⟩:=hc;subst h6;exact HU hi (Region.noSelect_spec h1) hQ fuel l a w (Region.free_spec hi h2) (by simpa using h3) hy h
def jS(md:Region.Mode)(D:Array Oper)(l l':Array Bool)(i:Nat):Bool:=(Region.ready md D l==[i])&&(l.setIfInBounds i true==l')
theorem uM{i:Nat}{N:Option Tmp}{oi:Oper}{fuel:Nat}{l:Array Bool}{a:Act}{w:World}(l':Array Bool)(hi:D[i]?=some oi)(hN:oi.dst=N)(hc:jS md D l l' i=true)(hd:i∉ds)
 (h:∀K:Act->World->Prop,Shut (∀a' w',S w'->(S w'->bG P md D Q S ds fuel l' a' w')->K a' w')->if Region.wanted oi (yielded D a.tmps)=true then Oper.wp P oi a w K Q else K (a.put N undef) w):
 bG P md D Q S ds (fuel+1) l a w:=by
 subst hN;simp only[jS,Bool.and_eq_true,beq_iff_eq]at hc;obtain⟨h1,h2⟩:=hc;subst h2;exact ru h1 (by simp) (fK.cons hi hd (fun K hK=>h K hK) fK.nil)
theorem wh{i:Nat}{N:Option Tmp}{oi:Oper}{fuel:Nat}{l:Array Bool}{a:Act}{w:World}(l':Array Bool)(hi:D[i]?=some oi)(hN:oi.dst=N)(hc:jS md D l l' i=true)(hd:i∈ds)
 (h:∀K:Act->World->Prop,Shut (∀a' w',bG P md D Q S ds fuel l' a' w'->K a' w')->if Region.wanted oi (yielded D a.tmps)=true then Oper.wp P oi a w K Q else K (a.put N undef) w):
 bG P md D Q S ds (fuel+1) l a w:=by
 subst hN;simp only[jS,Bool.and_eq_true,beq_iff_eq]at hc;obtain⟨h1,h2⟩:=hc;subst h2;exact ru h1 (by simp) (fK.Gq hi hd (fun K hK=>h K hK) fK.nil)
theorem Ik{l:Array Bool}{a:Act}{w:World}{n:Nat}(hr:(Region.ready md D l==[])=true)(h:Q .normal a w):bG P md D Q S ds n l a w:=Gb (by simpa using hr) h n
theorem kR{i j:Nat}{Ni Nj:Option Tmp}{oi oj:Oper}{fuel:Nat}{l:Array Bool}{a:Act}{w:World}(li lj:Array Bool)(hi:D[i]?=some oi)(hj:D[j]?=some oj)(e:oi.dst=Ni)(c:oj.dst=Nj)
 (hc:(Region.ready md D l==[i,j]&&l.setIfInBounds i true==li&&l.setIfInBounds j true==lj)=true)(d:i∉ds)(b:j∉ds)
 (h1:∀K:Act->World->Prop,Shut (∀a' w',S w'->(S w'->bG P md D Q S ds fuel li a' w')->K a' w')->if Region.wanted oi (yielded D a.tmps)=true then Oper.wp P oi a w K Q else K (a.put Ni undef) w)
 (h2:∀K:Act->World->Prop,Shut (∀a' w',S w'->(S w'->bG P md D Q S ds fuel lj a' w')->K a' w')->if Region.wanted oj (yielded D a.tmps)=true then Oper.wp P oj a w K Q else K (a.put Nj undef) w):
 bG P md D Q S ds (fuel+1) l a w:=by
 subst e;subst c;simp only[Bool.and_eq_true,beq_iff_eq]at hc;obtain⟨⟨h3,h4⟩,h5⟩:=hc;subst h4;subst h5;exact ru h3 (by simp) (fK.cons hi d (fun K hK=>h1 K hK) (fK.cons hj b (fun K hK=>h2 K hK) fK.nil))
theorem tV{i j k:Nat}{Ni Nj Nk:Option Tmp}{oi oj ok:Oper}{fuel:Nat}{l:Array Bool}{a:Act}{w:World}(li lj lk:Array Bool)(hi:D[i]?=some oi)(hj:D[j]?=some oj)(hk:D[k]?=some ok)(e:oi.dst=Ni)(c:oj.dst=Nj)(g:ok.dst=Nk)
 (hc:(Region.ready md D l==[i,j,k]&&l.setIfInBounds i true==li&&l.setIfInBounds j true==lj&&l.setIfInBounds k true==lk)=true)(d:i∉ds)(b:j∉ds)(f:k∉ds)
 (h1:∀K:Act->World->Prop,Shut (∀a' w',S w'->(S w'->bG P md D Q S ds fuel li a' w')->K a' w')->if Region.wanted oi (yielded D a.tmps)=true then Oper.wp P oi a w K Q else K (a.put Ni undef) w)
 (h2:∀K:Act->World->Prop,Shut (∀a' w',S w'->(S w'->bG P md D Q S ds fuel lj a' w')->K a' w')->if Region.wanted oj (yielded D a.tmps)=true then Oper.wp P oj a w K Q else K (a.put Nj undef) w)
 (h3:∀K:Act->World->Prop,Shut (∀a' w',S w'->(S w'->bG P md D Q S ds fuel lk a' w')->K a' w')->if Region.wanted ok (yielded D a.tmps)=true then Oper.wp P ok a w K Q else K (a.put Nk undef) w):
 bG P md D Q S ds (fuel+1) l a w:=by
 subst e;subst c;subst g;simp only[Bool.and_eq_true,beq_iff_eq]at hc;obtain⟨⟨⟨h4,h5⟩,h6⟩,h7⟩:=hc;subst h5;subst h6;subst h7;exact ru h4 (by simp) (fK.cons hi d (fun K hK=>h1 K hK) (fK.cons hj b (fun K hK=>h2 K hK) (fK.cons hk f (fun K hK=>h3 K hK) fK.nil)))
def jR:Act->List (Tmp×Value)->Act
 |a,[]=>a
 |a,(n,v)::r=>jR (a.put (some n) v) r
theorem eX{σ:Type}{fuel:Nat}{l:Array Bool}{a:Act}{w:World}(b:Nat)(l':Array Bool)(ns:σ->List (Tmp×Value))(F:σ->World->Prop)
 (c:∀s w',F s w'->bG P md D Q S ds b l' (jR a (ns s)) w')
 (h:(∀s w',F s w'->bG P md D Q S ds b l' (jR a (ns s)) w')->bG P md D Q S ds fuel l a w):bG P md D Q S ds fuel l a w:=h c
theorem cQ{fuel:Nat}{l:Array Bool}{a a':Act}{w:World}(ha:a=a')(h:bG P md D Q S ds fuel l a' w):bG P md D Q S ds fuel l a w:=by
 subst ha;exact h
theorem F9{oi:Oper}{N:Option Tmp}{a:Act}{w:World}{K:Act->World->Prop}(f:FuncId)(args:Array Value)(hw:Region.wanted oi (yielded D a.tmps)=true)(hN:oi.dst=N)(cG:(execOp a.eval oi).run P w= .ok (.enter f args) w)
 (h:Calls P f args w fun e w'=>∃v,e= .returned v/\K (a.put N v) w'):if Region.wanted oi (yielded D a.tmps)=true then Oper.wp P oi a w K Q else K (a.put N undef) w:=by
 rw[if_pos hw];subst hN;unfold Oper.wp;rw[cG,Oper.upon_enter];refine h.mono fun e b hh=>?_
 obtain⟨v,rfl,hk⟩:=hh;exact hk
theorem Ai{f:FuncId}{fn:Func}(hf:P.funcs[f]?=some fn)(fq:(fn.name== "runtime.NumGoroutine")=false)(hb:fn.body.isSome=true)(args:Array Value)(w:World):(callFunc f args).run P w= .ok (.enter f args) w:=by
 have h1:fn.name≠ "runtime.NumGoroutine" :=by simpa using fq
 obtain⟨c,hc⟩:=Option.isSome_iff_exists.1 hb;simp[callFunc,hf,h1,hc]
theorem Ea{oi:Oper}{N:Option Tmp}{a:Act}{w:World}{K:Act->World->Prop}{f:FuncId}{fn:Func}{as:Array Operand}{ts:Array TypeId}(hf:P.funcs[f]?=some fn)(fq:(fn.name== "runtime.NumGoroutine")=false)(hb:fn.body.isSome=true)(args:Array Value)
 (hw:Region.wanted oi (yielded D a.tmps)=true)(hN:oi.dst=N)(gj:oi.op= .call {callee:=.value (.func f),args:=as,argTypes:=ts})(fN:as.map a.eval=args)
 (h:Calls P f args w fun e w'=>∃v,e= .returned v/\K (a.put N v) w'):if Region.wanted oi (yielded D a.tmps)=true then Oper.wp P oi a w K Q else K (a.put N undef) w:=by
 refine F9 f args hw hN ?_ h;have he:=Ai hf fq hb args w;unfold execOp;simp[gj,resolve,Deferred.ofValue,invoke,Act.eval,fN,he]
theorem uG{rest:List Oper}{oi:Oper}{a:Act}{w:World}(N:Option Tmp)(hd:oi.dst=N)(hg:oi.guard=none){f:FuncId}{fn:Func}{as:Array Operand}{ts:Array TypeId}(hf:P.funcs[f]?=some fn)(fq:(fn.name== "runtime.NumGoroutine")=false)(hb:fn.body.isSome=true)(args:Array Value)
 (gj:oi.op= .call {callee:=.value (.func f),args:=as,argTypes:=ts})(fN:as.map a.eval=args)
 (h:Calls P f args w fun e w'=>∃v,e= .returned v/\wpList P D Q rest (a.put N v) w'):wpList P D Q (oi::rest) a w:=by
 refine wpList_plain hg fun K hK=>?_
 have he:=Ai hf fq hb args w
 have cG:(execOp a.eval oi).run P w= .ok (.enter f args) w:=by
  unfold execOp;simp[gj,resolve,Deferred.ofValue,invoke,Act.eval,fN,he]
 unfold Oper.wp;rw[cG,Oper.upon_enter];refine h.mono fun e b hh=>?_
 obtain⟨v,rfl,hk⟩:=hh;subst hd;exact hK _ _ hk
theorem nH{oi:Oper}{N:Option Tmp}{a:Act}{w w1:World}{v:Value}{K:Act->World->Prop}(hw:Region.wanted oi (yielded D a.tmps)=true)(hN:oi.dst=N)(cG:(execOp a.eval oi).run P w= .ok (.value v) w1)
 (h:K (a.put N v) w1):if Region.wanted oi (yielded D a.tmps)=true then Oper.wp P oi a w K Q else K (a.put N undef) w:=by
 rw[if_pos hw];subst hN;unfold Oper.wp;rw[cG];exact h
theorem eh{oi:Oper}{a:Act}{w w1:World}{K:Act->World->Prop}(hw:Region.wanted oi (yielded D a.tmps)=true)(hN:oi.dst=none)(cG:(execOp a.eval oi).run P w= .ok .skip w1)
 (h:K a w1):if Region.wanted oi (yielded D a.tmps)=true then Oper.wp P oi a w K Q else K (a.put none undef) w:=by
 rw[if_pos hw];unfold Oper.wp;rw[cG];show K (a.put oi.dst undef) w1;rw[hN];exact h
theorem fY(n:Int):IntKind.i64.wrap n=Go.RowKit.wrap64 n:=by unfold Go.RowKit.wrap64;exact IntKind.wrap_i64 n
theorem qI(n:Int):IntKind.i32.wrap n=Go.RowKit.wrap32 n:=by unfold Go.RowKit.wrap32;exact IntKind.wrap_i32 n
end
end Go.Proofs.YtlpbalebodlipaaW.PrintLast
